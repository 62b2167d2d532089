import Derived.Test.YtbfochojhmggfaaPkLeafHolds3
import Derived.ArgAppend
import Derived.Below
import Derived.BigQuiet
import Derived.ChangeArms
import Derived.DataReads
import Derived.Deep.AppendLies
import Derived.Deep.CutBlock
import Derived.Deep.DeepCutAuto
import Derived.Deep.Draws
import Derived.Deep.LoopGhost
import Derived.Deep.OwnRows
import Derived.Deep.QuietTactic
import Derived.Deep.RegionHeld3
import Derived.Deep.Slices
import Derived.Ground.Names2Prog
import Derived.IntWalk
import Derived.KernelRfl
import Derived.Laws.BitsLemmas
import Derived.Laws.BytesArg
import Derived.Laws.IdiomCopy
import Derived.Laws.MakeOwn
import Derived.Laws.OwnMore
import Derived.Laws.Rows
import Derived.Laws.Slices
import Derived.Laws.StructEq
import Derived.Lib.AppendStr
import Derived.Lib.ConvBytes
import Derived.Lib.OwnBridge
import Derived.Maps.AppendAt
import Derived.OrdersHeld
import Derived.OwnWalk
import Derived.RowKit
import Derived.RowKit3
import Derived.Shelf.Slices.Cells
import Derived.Shelf.Slices.CompactI
import Derived.Shelf.Slices.In.SortNone
import Derived.Shelf.Slices.SearchI
import Derived.Shelf.Slices.Turned
import Derived.Shelf.Small.Bits
import Derived.Shelf.Small.Wraps
import Derived.Shelf.Sort.Plain
import Derived.Shelf.Strconv.Itoa0
import Derived.Sort.OwnSortedInts
import Derived.Tactics
import Derived.Test.YtbfochojhmggfaaProg
import Derived.WalkKit
import Derived.WideLaws
section
namespace Go.Proofs.Ytbfochojhmggfaa.R
open Go.RowKit Go.Proofs.YtbfochojhmggfaaW.PrintWords Go.Proofs.YtbfochojhmggfaaW.PrintLast Go.Proofs.YtbfochojhmggfaaW.PrintMore
attribute [local go_sem] max2_int min2_int max_two min_two max_three min_three max_four min_four
set_option linter.unusedVariables false
set_option linter.unusedSimpArgs false
def spec_LeafHolds.f (k : Nat) (l0 : List (S176)) (l1 : List (S119)) (a2_0 : Int) (a2_1 : Int) (a2_2 : Int) (l2_3 : List (S109)) (a3_0 : Int) (a3_1 : Int) (a3_2 : Int) (a3_3 : Int) (a3_4 : Int) (a3_5 : Int) : Option (Bool) := if a2_0 = 1 then (some true) else (if a2_0 = 2 then ((spec_HasRole.f k l0 l1 a3_0 a2_1 a3_5 a2_2).bind fun t798 => (some t798)) else (if a2_0 = 3 then ((spec_FindFact.f k l1 2 a3_0 a3_1 a3_5 a2_2).bind fun t799 => (some (decide (t799 ≥ 0)))) else (if a2_0 = 4 then ((spec_BestValue.f k l1 3 a3_1 a3_5 a2_2).bind fun t800 => (some (decide (t800 ≥ a2_1)))) else (if a2_0 = 5 then ((spec_BestValue.f k l1 4 a3_2 a3_5 a2_2).bind fun t801 => (some (decide (t801 ≥ a2_1)))) else (if a2_0 = 6 then (some (decide (a3_5 ≤ a2_1))) else (some false))))))
def spec_LeafHolds.T9 : Bool × List (List Nat × List Nat) := (true, [([], []), ([], []), ([1], [1]), ([], []), ([3], [3]), ([], []), ([5], [5]), ([0, 2, 4, 6], [0, 2, 4, 6]), ([], []), ([8], [8]), ([7, 9], [7, 9]), ([10, 7, 0, 1, 2, 3, 4, 5, 6, 7, 8, 9, 10], [10])])
def spec_LeafHolds.B9 : List Nat := [0, 0, 2, 0, 8, 0, 32, 127, 0, 256, 1023, 2047]
theorem spec_LeafHolds.tab9 : rtab .any (opsOf Try.f67 9) = spec_LeafHolds.T9 := by kernel_rfl
theorem spec_LeafHolds.bits9 : waitsOk spec_LeafHolds.T9.2 spec_LeafHolds.B9 = true := by kernel_rfl
def spec_LeafHolds.T11 : Bool × List (List Nat × List Nat) := (true, [([], []), ([], []), ([1], [1]), ([], []), ([3], [3]), ([], []), ([5], [5]), ([0, 2, 4, 6], [0, 2, 4, 6]), ([], []), ([8], [8]), ([7, 9], [7, 9]), ([10, 7, 0, 1, 2, 3, 4, 5, 6, 7, 8, 9, 10], [10])])
def spec_LeafHolds.B11 : List Nat := [0, 0, 2, 0, 8, 0, 32, 127, 0, 256, 1023, 2047]
theorem spec_LeafHolds.tab11 : rtab .any (opsOf Try.f67 11) = spec_LeafHolds.T11 := by kernel_rfl
theorem spec_LeafHolds.bits11 : waitsOk spec_LeafHolds.T11.2 spec_LeafHolds.B11 = true := by kernel_rfl
set_option maxHeartbeats 8000000 in
set_option maxRecDepth 100000 in
theorem spec_LeafHolds.calls (k : Nat) (A0 : Option Addr) (c0 : Nat) (l0 : List (S176)) (A1 : Option Addr) (c1 : Nat) (l1 : List (S119)) (a2_0 : Int) (a2_1 : Int) (a2_2 : Int) (A2_3 : Option Addr) (c2_3 : Nat) (l2_3 : List (S109)) (a3_0 : Int) (a3_1 : Int) (a3_2 : Int) (a3_3 : Int) (a3_4 : Int) (a3_5 : Int) (r : Bool) (w : World) (hr0 : Kd.C k176 w A0 l0.length l0) (hc0 : l0.length ≤ c0) (hr1 : Kd.C k119 w A1 l1.length l1) (hc1 : l1.length ≤ c1) (hr2_3 : Kd.C k109 w A2_3 l2_3.length l2_3) (hc2_3 : l2_3.length ≤ c2_3) (h : spec_LeafHolds.f k l0 l1 a2_0 a2_1 a2_2 l2_3 a3_0 a3_1 a3_2 a3_3 a3_4 a3_5 = some r) :
    Calls Try.prog 67 #[.slice A0 l0.length c0, .slice A1 l1.length c1, .agg #[.int .i64 a2_0, .int .i64 a2_1, .int .i64 a2_2, .slice A2_3 l2_3.length c2_3], .agg #[.int .i64 a3_0, .int .i64 a3_1, .int .i64 a3_2, .int .i64 a3_3, .int .i64 a3_4, .int .i64 a3_5]] w fun e w' => e = .returned (.bool r) ∧ Below w.heap.size w w' := by
  have hu109 := Try.underlying109
  have hu111 := Try.underlying111
  have HR0 := Aside0.mk hr0
  have HC0 := Aside0.mk hc0
  clear hr0 hc0
  have HR1 := Aside0.mk hr1
  have HC1 := Aside0.mk hc1
  clear hr1 hc1
  have HR2_3 := Aside0.mk hr2_3
  have HC2_3 := Aside0.mk hc2_3
  clear hr2_3 hc2_3
  have HB := Aside0.mk (Below.refl w.heap.size w)
  have H : (if a2_0 = 1 then (some true) else (if a2_0 = 2 then ((spec_HasRole.f k l0 l1 a3_0 a2_1 a3_5 a2_2).bind fun t798 => (some t798)) else (if a2_0 = 3 then ((spec_FindFact.f k l1 2 a3_0 a3_1 a3_5 a2_2).bind fun t799 => (some (decide (t799 ≥ 0)))) else (if a2_0 = 4 then ((spec_BestValue.f k l1 3 a3_1 a3_5 a2_2).bind fun t800 => (some (decide (t800 ≥ a2_1)))) else (if a2_0 = 5 then ((spec_BestValue.f k l1 4 a3_2 a3_5 a2_2).bind fun t801 => (some (decide (t801 ≥ a2_1)))) else (if a2_0 = 6 then (some (decide (a3_5 ≤ a2_1))) else (some false))))))) = some r := h
  clear h
  by_cases c5 : a2_0 = 1
  · rw [if_pos c5] at H
    have c5b0 : (a2_0 == 1) = true := beq_iff_eq.mpr c5
    have c5b1 : (a2_0 != 1) = false := bne_eq_false_iff_eq.mpr c5
    clear c5
    obtain rfl := Option.some.inj H
    go_enter Try.func67, Try.ntmps67
    go_wp2_with (first | ((with_reducible refine gate_dst (N := 6) rfl ?_); refine box_event ?hg (N := 6) ?hd (cs := #[.int .i64 a2_0, .int .i64 a2_1, .int .i64 a2_2, .slice A2_3 l2_3.length c2_3]) (t := 109) ?hr ?_; (case hd => rfl); (case hg => rfl); (case hr => first | (go_simp; done) | (go_simp; rfl)); intro gb796 hg w6 hbox hb; have n0_ := Aside0.mk (below_step (bb HB.out) hb); have n1_ := Aside0.mk (hbox); have n2_ := Aside0.mk ((by rw [hg]; exact (below_size (bb HB.out)) : w.heap.size ≤ gb796)); have n3_ := Aside0.mk ((by rw [hg]; exact (below_size (bb HB.out)) : w.heap.size ≤ gb796)); clear HB; have HB := n0_; have BK796 := n1_; have GW796 := n2_; have GE796 := n3_; clear n0_ n1_ n2_ n3_; clear hb hbox hg) | ((with_reducible refine gate_dst (N := 7) rfl ?_); refine box_event ?hg (N := 7) ?hd (cs := #[.int .i64 a3_0, .int .i64 a3_1, .int .i64 a3_2, .int .i64 a3_3, .int .i64 a3_4, .int .i64 a3_5]) (t := 111) ?hr ?_; (case hd => rfl); (case hg => rfl); (case hr => first | (go_simp; done) | (go_simp; rfl)); intro gb797 hg w7 hbox hb; have n0_ := Aside0.mk (blk_below (rb BK796.out) hb); have n1_ := Aside0.mk (below_step (bb HB.out) hb); have n2_ := Aside0.mk (hbox); have n3_ := Aside0.mk ((by rw [hg]; exact (below_size (bb HB.out)) : w.heap.size ≤ gb797)); have n4_ := Aside0.mk ((by rw [hg]; exact (below_size (bb HB.out)) : w.heap.size ≤ gb797)); have n5_ := Aside0.mk ((by rw [hg]; exact Nat.ne_of_lt (blk_lt (g := gb796) (o := .cells #[.int .i64 a2_0, .int .i64 a2_1, .int .i64 a2_2, .slice A2_3 l2_3.length c2_3] 109 (0, 0)) (rb BK796.out)) : gb796 ≠ gb797)); have n6_ := Aside0.mk ((by rw [hg]; exact Nat.ne_of_gt (blk_lt (g := gb796) (o := .cells #[.int .i64 a2_0, .int .i64 a2_1, .int .i64 a2_2, .slice A2_3 l2_3.length c2_3] 109 (0, 0)) (rb BK796.out)) : gb797 ≠ gb796)); clear BK796; clear HB; have BK796 := n0_; have HB := n1_; have BK797 := n2_; have GW797 := n3_; have GE797 := n4_; have NB796_797 := n5_; have NB797_796 := n6_; clear n0_ n1_ n2_ n3_ n4_ n5_ n6_; clear hb hbox hg; have hnb8 := NB796_797.out; have hnc8 := NB797_796.out; have hcz9_0 := cz BK796.out 0 (.int .i64 a2_0); have hcz9_1 := cz BK796.out 1 (.int .i64 a2_1); have hcz9_2 := cz BK796.out 2 (.int .i64 a2_2); have hcz9_3 := cz BK796.out 3 (.slice A2_3 l2_3.length c2_3); have hfz9_0 := blk_frozen BK796.out 0; have hfz9_1 := blk_frozen BK796.out 1; have hfz9_2 := blk_frozen BK796.out 2; have hfz9_3 := blk_frozen BK796.out 3))
    go_ret
    exact ⟨by first | rfl | (simp [errW_none, errW_some] <;> rfl) | (simp [*, errW_none, errW_some] <;> rfl), bb HB.out⟩
  · rw [if_neg c5] at H
    have c5b0 : (a2_0 == 1) = false := beq_eq_false_iff_ne.mpr c5
    have c5b1 : (a2_0 != 1) = true := bne_iff_ne.mpr c5
    by_cases c10 : a2_0 = 2
    · rw [if_pos c10] at H
      have c10b0 : (a2_0 == 2) = true := beq_iff_eq.mpr c10
      have c10b1 : (a2_0 != 2) = false := bne_eq_false_iff_eq.mpr c10
      clear c10
      replace H := Option.bind_eq_some_iff.mp H
      obtain ⟨t798, A110, H⟩ := H
      replace H : (some t798) = some r := H
      have A11 := Aside0.mk A110
      clear A110
      obtain rfl := Option.some.inj H
      go_enter Try.func67, Try.ntmps67
      go_wp2_with (first | ((with_reducible refine gate_dst (N := 6) rfl ?_); refine box_event ?hg (N := 6) ?hd (cs := #[.int .i64 a2_0, .int .i64 a2_1, .int .i64 a2_2, .slice A2_3 l2_3.length c2_3]) (t := 109) ?hr ?_; (case hd => rfl); (case hg => rfl); (case hr => first | (go_simp; done) | (go_simp; rfl)); intro gb796 hg w12 hbox hb; have n0_ := Aside0.mk (below_step (bb HB.out) hb); have n1_ := Aside0.mk (hbox); have n2_ := Aside0.mk ((by rw [hg]; exact (below_size (bb HB.out)) : w.heap.size ≤ gb796)); have n3_ := Aside0.mk ((by rw [hg]; exact (below_size (bb HB.out)) : w.heap.size ≤ gb796)); clear HB; have HB := n0_; have BK796 := n1_; have GW796 := n2_; have GE796 := n3_; clear n0_ n1_ n2_ n3_; clear hb hbox hg) | ((with_reducible refine gate_dst (N := 7) rfl ?_); refine box_event ?hg (N := 7) ?hd (cs := #[.int .i64 a3_0, .int .i64 a3_1, .int .i64 a3_2, .int .i64 a3_3, .int .i64 a3_4, .int .i64 a3_5]) (t := 111) ?hr ?_; (case hd => rfl); (case hg => rfl); (case hr => first | (go_simp; done) | (go_simp; rfl)); intro gb797 hg w13 hbox hb; have n0_ := Aside0.mk (blk_below (rb BK796.out) hb); have n1_ := Aside0.mk (below_step (bb HB.out) hb); have n2_ := Aside0.mk (hbox); have n3_ := Aside0.mk ((by rw [hg]; exact (below_size (bb HB.out)) : w.heap.size ≤ gb797)); have n4_ := Aside0.mk ((by rw [hg]; exact (below_size (bb HB.out)) : w.heap.size ≤ gb797)); have n5_ := Aside0.mk ((by rw [hg]; exact Nat.ne_of_lt (blk_lt (g := gb796) (o := .cells #[.int .i64 a2_0, .int .i64 a2_1, .int .i64 a2_2, .slice A2_3 l2_3.length c2_3] 109 (0, 0)) (rb BK796.out)) : gb796 ≠ gb797)); have n6_ := Aside0.mk ((by rw [hg]; exact Nat.ne_of_gt (blk_lt (g := gb796) (o := .cells #[.int .i64 a2_0, .int .i64 a2_1, .int .i64 a2_2, .slice A2_3 l2_3.length c2_3] 109 (0, 0)) (rb BK796.out)) : gb797 ≠ gb796)); clear BK796; clear HB; have BK796 := n0_; have HB := n1_; have BK797 := n2_; have GW797 := n3_; have GE797 := n4_; have NB796_797 := n5_; have NB797_796 := n6_; clear n0_ n1_ n2_ n3_ n4_ n5_ n6_; clear hb hbox hg; have hnb14 := NB796_797.out; have hnc14 := NB797_796.out; have hcz15_0 := cz BK796.out 0 (.int .i64 a2_0); have hcz15_1 := cz BK796.out 1 (.int .i64 a2_1); have hcz15_2 := cz BK796.out 2 (.int .i64 a2_2); have hcz15_3 := cz BK796.out 3 (.slice A2_3 l2_3.length c2_3); have hfz15_0 := blk_frozen BK796.out 0; have hfz15_1 := blk_frozen BK796.out 1; have hfz15_2 := blk_frozen BK796.out 2; have hfz15_3 := blk_frozen BK796.out 3; have hcz16_0 := cz BK797.out 0 (.int .i64 a3_0); have hcz16_1 := cz BK797.out 1 (.int .i64 a3_1); have hcz16_2 := cz BK797.out 2 (.int .i64 a3_2); have hcz16_3 := cz BK797.out 3 (.int .i64 a3_3); have hcz16_4 := cz BK797.out 4 (.int .i64 a3_4); have hcz16_5 := cz BK797.out 5 (.int .i64 a3_5); have hfz16_0 := blk_frozen BK797.out 0; have hfz16_1 := blk_frozen BK797.out 1; have hfz16_2 := blk_frozen BK797.out 2; have hfz16_3 := blk_frozen BK797.out 3; have hfz16_4 := blk_frozen BK797.out 4; have hfz16_5 := blk_frozen BK797.out 5) | ((with_reducible refine gate_callee (f := 146) rfl ?_); refine gm (some 25) Try.func146 #[.slice A0 l0.length c0, .slice A1 l1.length c1, .int .i64 a3_0, .int .i64 a2_1, .int .i64 a3_5, .int .i64 a2_2] ?_; (with_reducible refine (spec_HasRole.calls k _ _ l0 _ _ l1 a3_0 a2_1 a3_5 a2_2 t798 _ ?side1 ?side2 ?side3 ?side4 A11.out).mono ?_); (case side1 => repeat (first | exact (Kd.C_below HR0.out HB.out) | (with_reducible refine Kd.C_alloc ?_ _) | (with_reducible refine Kd.C_drewN ?_ _) | (with_reducible refine Kd.C_drew ?_))); (case side2 => exact HC0.out); (case side3 => repeat (first | exact (Kd.C_below HR1.out HB.out) | (with_reducible refine Kd.C_alloc ?_ _) | (with_reducible refine Kd.C_drewN ?_ _) | (with_reducible refine Kd.C_drew ?_))); (case side4 => exact HC1.out); rintro e w17 ⟨rfl, hb⟩; refine ⟨_, rfl, ?_⟩; have n0_ := Aside0.mk (blk_below (rb BK796.out) hb); have n1_ := Aside0.mk (blk_below (rb BK797.out) hb); have n2_ := Aside0.mk (below_step (bb HB.out) hb); clear BK796; clear BK797; clear HB; have BK796 := n0_; have BK797 := n1_; have HB := n2_; clear n0_ n1_ n2_; (try clear hb); (try clear hb2); (try clear hk); (try clear hi)))
      go_ret
      exact ⟨by first | rfl | (simp [errW_none, errW_some] <;> rfl) | (simp [*, errW_none, errW_some] <;> rfl), bb HB.out⟩
    · rw [if_neg c10] at H
      have c10b0 : (a2_0 == 2) = false := beq_eq_false_iff_ne.mpr c10
      have c10b1 : (a2_0 != 2) = true := bne_iff_ne.mpr c10
      by_cases c18 : a2_0 = 3
      · rw [if_pos c18] at H
        have c18b0 : (a2_0 == 3) = true := beq_iff_eq.mpr c18
        have c18b1 : (a2_0 != 3) = false := bne_eq_false_iff_eq.mpr c18
        clear c18
        replace H := Option.bind_eq_some_iff.mp H
        obtain ⟨t799, A190, H⟩ := H
        replace H : (some (decide (t799 ≥ 0))) = some r := H
        have A19 := Aside0.mk A190
        clear A190
        obtain rfl := Option.some.inj H
        go_enter Try.func67, Try.ntmps67
        go_wp2_with (first | ((with_reducible refine gate_dst (N := 6) rfl ?_); refine box_event ?hg (N := 6) ?hd (cs := #[.int .i64 a2_0, .int .i64 a2_1, .int .i64 a2_2, .slice A2_3 l2_3.length c2_3]) (t := 109) ?hr ?_; (case hd => rfl); (case hg => rfl); (case hr => first | (go_simp; done) | (go_simp; rfl)); intro gb796 hg w20 hbox hb; have n0_ := Aside0.mk (below_step (bb HB.out) hb); have n1_ := Aside0.mk (hbox); have n2_ := Aside0.mk ((by rw [hg]; exact (below_size (bb HB.out)) : w.heap.size ≤ gb796)); have n3_ := Aside0.mk ((by rw [hg]; exact (below_size (bb HB.out)) : w.heap.size ≤ gb796)); clear HB; have HB := n0_; have BK796 := n1_; have GW796 := n2_; have GE796 := n3_; clear n0_ n1_ n2_ n3_; clear hb hbox hg) | ((with_reducible refine gate_dst (N := 7) rfl ?_); refine box_event ?hg (N := 7) ?hd (cs := #[.int .i64 a3_0, .int .i64 a3_1, .int .i64 a3_2, .int .i64 a3_3, .int .i64 a3_4, .int .i64 a3_5]) (t := 111) ?hr ?_; (case hd => rfl); (case hg => rfl); (case hr => first | (go_simp; done) | (go_simp; rfl)); intro gb797 hg w21 hbox hb; have n0_ := Aside0.mk (blk_below (rb BK796.out) hb); have n1_ := Aside0.mk (below_step (bb HB.out) hb); have n2_ := Aside0.mk (hbox); have n3_ := Aside0.mk ((by rw [hg]; exact (below_size (bb HB.out)) : w.heap.size ≤ gb797)); have n4_ := Aside0.mk ((by rw [hg]; exact (below_size (bb HB.out)) : w.heap.size ≤ gb797)); have n5_ := Aside0.mk ((by rw [hg]; exact Nat.ne_of_lt (blk_lt (g := gb796) (o := .cells #[.int .i64 a2_0, .int .i64 a2_1, .int .i64 a2_2, .slice A2_3 l2_3.length c2_3] 109 (0, 0)) (rb BK796.out)) : gb796 ≠ gb797)); have n6_ := Aside0.mk ((by rw [hg]; exact Nat.ne_of_gt (blk_lt (g := gb796) (o := .cells #[.int .i64 a2_0, .int .i64 a2_1, .int .i64 a2_2, .slice A2_3 l2_3.length c2_3] 109 (0, 0)) (rb BK796.out)) : gb797 ≠ gb796)); clear BK796; clear HB; have BK796 := n0_; have HB := n1_; have BK797 := n2_; have GW797 := n3_; have GE797 := n4_; have NB796_797 := n5_; have NB797_796 := n6_; clear n0_ n1_ n2_ n3_ n4_ n5_ n6_; clear hb hbox hg; have hnb22 := NB796_797.out; have hnc22 := NB797_796.out; have hcz23_0 := cz BK796.out 0 (.int .i64 a2_0); have hcz23_1 := cz BK796.out 1 (.int .i64 a2_1); have hcz23_2 := cz BK796.out 2 (.int .i64 a2_2); have hcz23_3 := cz BK796.out 3 (.slice A2_3 l2_3.length c2_3); have hfz23_0 := blk_frozen BK796.out 0; have hfz23_1 := blk_frozen BK796.out 1; have hfz23_2 := blk_frozen BK796.out 2; have hfz23_3 := blk_frozen BK796.out 3; have hcz24_0 := cz BK797.out 0 (.int .i64 a3_0); have hcz24_1 := cz BK797.out 1 (.int .i64 a3_1); have hcz24_2 := cz BK797.out 2 (.int .i64 a3_2); have hcz24_3 := cz BK797.out 3 (.int .i64 a3_3); have hcz24_4 := cz BK797.out 4 (.int .i64 a3_4); have hcz24_5 := cz BK797.out 5 (.int .i64 a3_5); have hfz24_0 := blk_frozen BK797.out 0; have hfz24_1 := blk_frozen BK797.out 1; have hfz24_2 := blk_frozen BK797.out 2; have hfz24_3 := blk_frozen BK797.out 3; have hfz24_4 := blk_frozen BK797.out 4; have hfz24_5 := blk_frozen BK797.out 5) | ((with_reducible refine gate_callee (f := 147) rfl ?_); refine gm (some 37) Try.func147 #[.slice A1 l1.length c1, .int .i64 2, .int .i64 a3_0, .int .i64 a3_1, .int .i64 a3_5, .int .i64 a2_2] ?_; (with_reducible refine (spec_FindFact.calls k _ _ l1 2 a3_0 a3_1 a3_5 a2_2 t799 _ ?side1 ?side2 A19.out).mono ?_); (case side1 => repeat (first | exact (Kd.C_below HR1.out HB.out) | (with_reducible refine Kd.C_alloc ?_ _) | (with_reducible refine Kd.C_drewN ?_ _) | (with_reducible refine Kd.C_drew ?_))); (case side2 => exact HC1.out); rintro e w25 ⟨rfl, hb⟩; refine ⟨_, rfl, ?_⟩; have n0_ := Aside0.mk (blk_below (rb BK796.out) hb); have n1_ := Aside0.mk (blk_below (rb BK797.out) hb); have n2_ := Aside0.mk (below_step (bb HB.out) hb); clear BK796; clear BK797; clear HB; have BK796 := n0_; have BK797 := n1_; have HB := n2_; clear n0_ n1_ n2_; (try clear hb); (try clear hb2); (try clear hk); (try clear hi)))
        go_ret
        exact ⟨by first | rfl | (simp [errW_none, errW_some] <;> rfl) | (simp [*, errW_none, errW_some] <;> rfl), bb HB.out⟩
      · rw [if_neg c18] at H
        have c18b0 : (a2_0 == 3) = false := beq_eq_false_iff_ne.mpr c18
        have c18b1 : (a2_0 != 3) = true := bne_iff_ne.mpr c18
        by_cases c26 : a2_0 = 4
        · rw [if_pos c26] at H
          have c26b0 : (a2_0 == 4) = true := beq_iff_eq.mpr c26
          have c26b1 : (a2_0 != 4) = false := bne_eq_false_iff_eq.mpr c26
          clear c26
          replace H := Option.bind_eq_some_iff.mp H
          obtain ⟨t800, A270, H⟩ := H
          replace H : (some (decide (t800 ≥ a2_1))) = some r := H
          have A27 := Aside0.mk A270
          clear A270
          obtain rfl := Option.some.inj H
          go_enter Try.func67, Try.ntmps67
          try go_wp2_with (first | ((with_reducible refine gate_dst (N := 6) rfl ?_); refine box_event ?hg (N := 6) ?hd (cs := #[.int .i64 a2_0, .int .i64 a2_1, .int .i64 a2_2, .slice A2_3 l2_3.length c2_3]) (t := 109) ?hr ?_; (case hd => rfl); (case hg => rfl); (case hr => first | (go_simp; done) | (go_simp; rfl)); intro gb796 hg w28 hbox hb; have n0_ := Aside0.mk (below_step (bb HB.out) hb); have n1_ := Aside0.mk (hbox); have n2_ := Aside0.mk ((by rw [hg]; exact (below_size (bb HB.out)) : w.heap.size ≤ gb796)); have n3_ := Aside0.mk ((by rw [hg]; exact (below_size (bb HB.out)) : w.heap.size ≤ gb796)); clear HB; have HB := n0_; have BK796 := n1_; have GW796 := n2_; have GE796 := n3_; clear n0_ n1_ n2_ n3_; clear hb hbox hg) | ((with_reducible refine gate_dst (N := 7) rfl ?_); refine box_event ?hg (N := 7) ?hd (cs := #[.int .i64 a3_0, .int .i64 a3_1, .int .i64 a3_2, .int .i64 a3_3, .int .i64 a3_4, .int .i64 a3_5]) (t := 111) ?hr ?_; (case hd => rfl); (case hg => rfl); (case hr => first | (go_simp; done) | (go_simp; rfl)); intro gb797 hg w29 hbox hb; have n0_ := Aside0.mk (blk_below (rb BK796.out) hb); have n1_ := Aside0.mk (below_step (bb HB.out) hb); have n2_ := Aside0.mk (hbox); have n3_ := Aside0.mk ((by rw [hg]; exact (below_size (bb HB.out)) : w.heap.size ≤ gb797)); have n4_ := Aside0.mk ((by rw [hg]; exact (below_size (bb HB.out)) : w.heap.size ≤ gb797)); have n5_ := Aside0.mk ((by rw [hg]; exact Nat.ne_of_lt (blk_lt (g := gb796) (o := .cells #[.int .i64 a2_0, .int .i64 a2_1, .int .i64 a2_2, .slice A2_3 l2_3.length c2_3] 109 (0, 0)) (rb BK796.out)) : gb796 ≠ gb797)); have n6_ := Aside0.mk ((by rw [hg]; exact Nat.ne_of_gt (blk_lt (g := gb796) (o := .cells #[.int .i64 a2_0, .int .i64 a2_1, .int .i64 a2_2, .slice A2_3 l2_3.length c2_3] 109 (0, 0)) (rb BK796.out)) : gb797 ≠ gb796)); clear BK796; clear HB; have BK796 := n0_; have HB := n1_; have BK797 := n2_; have GW797 := n3_; have GE797 := n4_; have NB796_797 := n5_; have NB797_796 := n6_; clear n0_ n1_ n2_ n3_ n4_ n5_ n6_; clear hb hbox hg; have hnb30 := NB796_797.out; have hnc30 := NB797_796.out; have hcz31_0 := cz BK796.out 0 (.int .i64 a2_0); have hcz31_1 := cz BK796.out 1 (.int .i64 a2_1); have hcz31_2 := cz BK796.out 2 (.int .i64 a2_2); have hcz31_3 := cz BK796.out 3 (.slice A2_3 l2_3.length c2_3); have hfz31_0 := blk_frozen BK796.out 0; have hfz31_1 := blk_frozen BK796.out 1; have hfz31_2 := blk_frozen BK796.out 2; have hfz31_3 := blk_frozen BK796.out 3))
          have n0_ := Aside0.mk (blk_drew BK796.out)
          have n1_ := Aside0.mk (blk_drew BK797.out)
          have n2_ := Aside0.mk (below_drew1 HB.out)
          clear BK796
          clear BK797
          clear HB
          have BK796 := n0_
          have BK797 := n1_
          have HB := n2_
          clear n0_ n1_ n2_
          refine start_ (n := 12) (S := fun w' => w'.cell? ⟨gb797, 0, none⟩ = some (.int .i64 a3_0) ∧ w'.cell? ⟨gb797, 1, none⟩ = some (.int .i64 a3_1) ∧ w'.cell? ⟨gb797, 2, none⟩ = some (.int .i64 a3_2) ∧ w'.cell? ⟨gb797, 3, none⟩ = some (.int .i64 a3_3) ∧ w'.cell? ⟨gb797, 4, none⟩ = some (.int .i64 a3_4) ∧ w'.cell? ⟨gb797, 5, none⟩ = some (.int .i64 a3_5) ∧ w'.cell? ⟨gb796, 0, none⟩ = some (.int .i64 a2_0) ∧ w'.cell? ⟨gb796, 1, none⟩ = some (.int .i64 a2_1) ∧ w'.cell? ⟨gb796, 2, none⟩ = some (.int .i64 a2_2) ∧ w'.cell? ⟨gb796, 3, none⟩ = some (.slice A2_3 l2_3.length c2_3)) (ds := []) #[false, false, false, false, false, false, false, false, false, false, false, false] (by kernel_rfl) rfl rfl ⟨(blk_cell BK797.out 0).trans rfl, (blk_cell BK797.out 1).trans rfl, (blk_cell BK797.out 2).trans rfl, (blk_cell BK797.out 3).trans rfl, (blk_cell BK797.out 4).trans rfl, (blk_cell BK797.out 5).trans rfl, (blk_cell BK796.out 0).trans rfl, (blk_cell BK796.out 1).trans rfl, (blk_cell BK796.out 2).trans rfl, (blk_cell BK796.out 3).trans rfl⟩ (fun hHeld => ?_); refine with_tabW spec_LeafHolds.tab9 spec_LeafHolds.bits9 (fun HT_ HW_ => ?_)
          generalize w29.drew = w32 at BK796 BK797 HB hHeld ⊢
          refine pure_ (i := 0) (N := some 41) (v := ?_) (a' := ?_) #[true, false, false, false, false, false, false, false, false, false, false, false] rfl rfl (any_of HT_.out (by kernel_rfl)) (fun _ _ _ h => h) (Or.inl ⟨by rfl, ?_⟩) ?_ ?_
          rotate_left
          · intro w'
            go_simp
            with_reducible rfl
          rotate_left
          · simp only [Act.put, List.setIfInBounds_toArray, List.set_cons_zero, List.set_cons_succ, i64_w, i32_w]
            rfl
          refine pure_ (i := 1) (N := some 42) (v := ?_) (a' := ?_) #[true, true, false, false, false, false, false, false, false, false, false, false] rfl rfl (any_of HT_.out (by kernel_rfl)) (fun _ _ _ h => h) (Or.inl ⟨by rfl, ?_⟩) ?_ ?_
          rotate_left
          · intro w'
            go_simp
            with_reducible rfl
          rotate_left
          · simp only [Act.put, List.setIfInBounds_toArray, List.set_cons_zero, List.set_cons_succ, i64_w, i32_w]
            rfl
          refine pure_ (i := 3) (N := some 44) (v := ?_) (a' := ?_) #[true, true, false, true, false, false, false, false, false, false, false, false] rfl rfl (any_of HT_.out (by kernel_rfl)) (fun _ _ _ h => h) (Or.inl ⟨by rfl, ?_⟩) ?_ ?_
          rotate_left
          · intro w'
            go_simp
            with_reducible rfl
          rotate_left
          · simp only [Act.put, List.setIfInBounds_toArray, List.set_cons_zero, List.set_cons_succ, i64_w, i32_w]
            rfl
          refine pure_ (i := 5) (N := some 46) (v := ?_) (a' := ?_) #[true, true, false, true, false, true, false, false, false, false, false, false] rfl rfl (any_of HT_.out (by kernel_rfl)) (fun _ _ _ h => h) (Or.inl ⟨by rfl, ?_⟩) ?_ ?_
          rotate_left
          · intro w'
            go_simp
            with_reducible rfl
          rotate_left
          · simp only [Act.put, List.setIfInBounds_toArray, List.set_cons_zero, List.set_cons_succ, i64_w, i32_w]
            rfl
          refine pure_ (i := 8) (N := some 49) (v := ?_) (a' := ?_) #[true, true, false, true, false, true, false, false, true, false, false, false] rfl rfl (any_of HT_.out (by kernel_rfl)) (fun _ _ _ h => h) (Or.inl ⟨by rfl, ?_⟩) ?_ ?_
          rotate_left
          · intro w'
            go_simp
            with_reducible rfl
          rotate_left
          · simp only [Act.put, List.setIfInBounds_toArray, List.set_cons_zero, List.set_cons_succ, i64_w, i32_w]
            rfl
          refine take_ (i := 2) (N := some 43) (v := ?_) (a' := ?_) #[true, true, true, true, false, true, false, false, true, false, false, false] rfl rfl (take_ofW HT_.out HW_.out (by kernel_rfl)) (fun _ _ _ h => h) (Or.inl ⟨by rfl, ?_⟩) hHeld ?_ ?_
          rotate_left
          · rintro w' ⟨s0, s1, s2, s3, s4, s5, s6, s7, s8, s9⟩
            go_simp
            with_reducible rfl
          rotate_left
          · simp only [Act.put, List.setIfInBounds_toArray, List.set_cons_zero, List.set_cons_succ, i64_w, i32_w]
            rfl
          refine take_ (i := 4) (N := some 45) (v := ?_) (a' := ?_) #[true, true, true, true, true, true, false, false, true, false, false, false] rfl rfl (take_ofW HT_.out HW_.out (by kernel_rfl)) (fun _ _ _ h => h) (Or.inl ⟨by rfl, ?_⟩) hHeld ?_ ?_
          rotate_left
          · rintro w' ⟨s0, s1, s2, s3, s4, s5, s6, s7, s8, s9⟩
            go_simp
            with_reducible rfl
          rotate_left
          · simp only [Act.put, List.setIfInBounds_toArray, List.set_cons_zero, List.set_cons_succ, i64_w, i32_w]
            rfl
          refine take_ (i := 6) (N := some 47) (v := ?_) (a' := ?_) #[true, true, true, true, true, true, true, false, true, false, false, false] rfl rfl (take_ofW HT_.out HW_.out (by kernel_rfl)) (fun _ _ _ h => h) (Or.inl ⟨by rfl, ?_⟩) hHeld ?_ ?_
          rotate_left
          · rintro w' ⟨s0, s1, s2, s3, s4, s5, s6, s7, s8, s9⟩
            go_simp
            with_reducible rfl
          rotate_left
          · simp only [Act.put, List.setIfInBounds_toArray, List.set_cons_zero, List.set_cons_succ, i64_w, i32_w]
            rfl
          refine take_ (i := 9) (N := some 50) (v := ?_) (a' := ?_) #[true, true, true, true, true, true, true, false, true, true, false, false] rfl rfl (take_ofW HT_.out HW_.out (by kernel_rfl)) (fun _ _ _ h => h) (Or.inl ⟨by rfl, ?_⟩) hHeld ?_ ?_
          rotate_left
          · rintro w' ⟨s0, s1, s2, s3, s4, s5, s6, s7, s8, s9⟩
            go_simp
            with_reducible rfl
          rotate_left
          · simp only [Act.put, List.setIfInBounds_toArray, List.set_cons_zero, List.set_cons_succ, i64_w, i32_w]
            rfl
          refine one_ (i := 7) (N := some 48) #[true, true, true, true, true, true, true, true, true, true, false, false] rfl rfl (one_of HT_.out (by kernel_rfl)) (by decide) (fun K hK => ?_)
          refine goes_ Try.func148 (by kernel_rfl) rfl #[.slice A1 l1.length c1, .int .i64 3, .int .i64 a3_1, .int .i64 a3_5, .int .i64 a2_2] (by rfl) rfl rfl (by (try simp only [List.map_toArray, List.map_cons, List.map_nil]); first | done | rfl | (simp only [List.length_drop, List.length_take]; rfl)) ?_
          with_reducible refine (spec_BestValue.calls k _ _ l1 3 a3_1 a3_5 a2_2 t800 _ ?side1 ?side2 A27.out).mono ?_
          (case side1 => repeat (first | exact (Kd.C_below HR1.out HB.out) | (with_reducible refine Kd.C_alloc ?_ _) | (with_reducible refine Kd.C_drewN ?_ _) | (with_reducible refine Kd.C_drew ?_)))
          (case side2 => exact HC1.out)
          rintro e w33 ⟨rfl, hb⟩
          refine ⟨_, rfl, ?_⟩
          have n0_ := Aside0.mk (blk_below (rb BK796.out) hb)
          have n1_ := Aside0.mk (blk_below (rb BK797.out) hb)
          have n2_ := Aside0.mk (below_step (bb HB.out) hb)
          clear BK796
          clear BK797
          clear HB
          have BK796 := n0_
          have BK797 := n1_
          have HB := n2_
          clear n0_ n1_ n2_
          (try clear hb)
          (try clear hb2)
          (try clear hk)
          (try clear hi)
          refine hK.out _ _ ⟨(blk_cell BK797.out 0).trans rfl, (blk_cell BK797.out 1).trans rfl, (blk_cell BK797.out 2).trans rfl, (blk_cell BK797.out 3).trans rfl, (blk_cell BK797.out 4).trans rfl, (blk_cell BK797.out 5).trans rfl, (blk_cell BK796.out 0).trans rfl, (blk_cell BK796.out 1).trans rfl, (blk_cell BK796.out 2).trans rfl, (blk_cell BK796.out 3).trans rfl⟩ (fun hHeld => ?_)
          clear hK K
          refine norm_ (a' := ?_) ?_ ?_
          rotate_left
          · show Act.put _ (some 48) _ = _
            simp only [Act.put, List.setIfInBounds_toArray, List.set_cons_zero, List.set_cons_succ, i64_w, i32_w]
            rfl
          refine pure_ (i := 10) (N := some 51) (v := ?_) (a' := ?_) #[true, true, true, true, true, true, true, true, true, true, true, false] rfl rfl (any_of HT_.out (by kernel_rfl)) (fun _ _ _ h => h) (Or.inl ⟨by rfl, ?_⟩) ?_ ?_
          rotate_left
          · intro w'
            go_simp
            with_reducible rfl
          rotate_left
          · simp only [Act.put, List.setIfInBounds_toArray, List.set_cons_zero, List.set_cons_succ, i64_w, i32_w]
            rfl
          refine pure_ (i := 11) (N := some 8) (v := ?_) (a' := ?_) #[true, true, true, true, true, true, true, true, true, true, true, true] rfl rfl (any_of HT_.out (by kernel_rfl)) (fun _ _ _ h => h) (Or.inl ⟨by rfl, ?_⟩) ?_ ?_
          rotate_left
          · intro w'
            go_simp
            with_reducible rfl
          rotate_left
          · simp only [Act.put, List.setIfInBounds_toArray, List.set_cons_zero, List.set_cons_succ, i64_w, i32_w]
            rfl
          refine done_ (done_of HT_.out (by kernel_rfl)) ?_
          try go_wp2
          go_ret
          exact ⟨by first | rfl | (simp [errW_none, errW_some] <;> rfl) | (simp [*, errW_none, errW_some] <;> rfl), bb HB.out⟩
        · rw [if_neg c26] at H
          have c26b0 : (a2_0 == 4) = false := beq_eq_false_iff_ne.mpr c26
          have c26b1 : (a2_0 != 4) = true := bne_iff_ne.mpr c26
          by_cases c34 : a2_0 = 5
          · rw [if_pos c34] at H
            have c34b0 : (a2_0 == 5) = true := beq_iff_eq.mpr c34
            have c34b1 : (a2_0 != 5) = false := bne_eq_false_iff_eq.mpr c34
            clear c34
            replace H := Option.bind_eq_some_iff.mp H
            obtain ⟨t801, A350, H⟩ := H
            replace H : (some (decide (t801 ≥ a2_1))) = some r := H
            have A35 := Aside0.mk A350
            clear A350
            obtain rfl := Option.some.inj H
            go_enter Try.func67, Try.ntmps67
            try go_wp2_with (first | ((with_reducible refine gate_dst (N := 6) rfl ?_); refine box_event ?hg (N := 6) ?hd (cs := #[.int .i64 a2_0, .int .i64 a2_1, .int .i64 a2_2, .slice A2_3 l2_3.length c2_3]) (t := 109) ?hr ?_; (case hd => rfl); (case hg => rfl); (case hr => first | (go_simp; done) | (go_simp; rfl)); intro gb796 hg w36 hbox hb; have n0_ := Aside0.mk (below_step (bb HB.out) hb); have n1_ := Aside0.mk (hbox); have n2_ := Aside0.mk ((by rw [hg]; exact (below_size (bb HB.out)) : w.heap.size ≤ gb796)); have n3_ := Aside0.mk ((by rw [hg]; exact (below_size (bb HB.out)) : w.heap.size ≤ gb796)); clear HB; have HB := n0_; have BK796 := n1_; have GW796 := n2_; have GE796 := n3_; clear n0_ n1_ n2_ n3_; clear hb hbox hg) | ((with_reducible refine gate_dst (N := 7) rfl ?_); refine box_event ?hg (N := 7) ?hd (cs := #[.int .i64 a3_0, .int .i64 a3_1, .int .i64 a3_2, .int .i64 a3_3, .int .i64 a3_4, .int .i64 a3_5]) (t := 111) ?hr ?_; (case hd => rfl); (case hg => rfl); (case hr => first | (go_simp; done) | (go_simp; rfl)); intro gb797 hg w37 hbox hb; have n0_ := Aside0.mk (blk_below (rb BK796.out) hb); have n1_ := Aside0.mk (below_step (bb HB.out) hb); have n2_ := Aside0.mk (hbox); have n3_ := Aside0.mk ((by rw [hg]; exact (below_size (bb HB.out)) : w.heap.size ≤ gb797)); have n4_ := Aside0.mk ((by rw [hg]; exact (below_size (bb HB.out)) : w.heap.size ≤ gb797)); have n5_ := Aside0.mk ((by rw [hg]; exact Nat.ne_of_lt (blk_lt (g := gb796) (o := .cells #[.int .i64 a2_0, .int .i64 a2_1, .int .i64 a2_2, .slice A2_3 l2_3.length c2_3] 109 (0, 0)) (rb BK796.out)) : gb796 ≠ gb797)); have n6_ := Aside0.mk ((by rw [hg]; exact Nat.ne_of_gt (blk_lt (g := gb796) (o := .cells #[.int .i64 a2_0, .int .i64 a2_1, .int .i64 a2_2, .slice A2_3 l2_3.length c2_3] 109 (0, 0)) (rb BK796.out)) : gb797 ≠ gb796)); clear BK796; clear HB; have BK796 := n0_; have HB := n1_; have BK797 := n2_; have GW797 := n3_; have GE797 := n4_; have NB796_797 := n5_; have NB797_796 := n6_; clear n0_ n1_ n2_ n3_ n4_ n5_ n6_; clear hb hbox hg; have hnb38 := NB796_797.out; have hnc38 := NB797_796.out; have hcz39_0 := cz BK796.out 0 (.int .i64 a2_0); have hcz39_1 := cz BK796.out 1 (.int .i64 a2_1); have hcz39_2 := cz BK796.out 2 (.int .i64 a2_2); have hcz39_3 := cz BK796.out 3 (.slice A2_3 l2_3.length c2_3); have hfz39_0 := blk_frozen BK796.out 0; have hfz39_1 := blk_frozen BK796.out 1; have hfz39_2 := blk_frozen BK796.out 2; have hfz39_3 := blk_frozen BK796.out 3))
            have n0_ := Aside0.mk (blk_drew BK796.out)
            have n1_ := Aside0.mk (blk_drew BK797.out)
            have n2_ := Aside0.mk (below_drew1 HB.out)
            clear BK796
            clear BK797
            clear HB
            have BK796 := n0_
            have BK797 := n1_
            have HB := n2_
            clear n0_ n1_ n2_
            refine start_ (n := 12) (S := fun w' => w'.cell? ⟨gb797, 0, none⟩ = some (.int .i64 a3_0) ∧ w'.cell? ⟨gb797, 1, none⟩ = some (.int .i64 a3_1) ∧ w'.cell? ⟨gb797, 2, none⟩ = some (.int .i64 a3_2) ∧ w'.cell? ⟨gb797, 3, none⟩ = some (.int .i64 a3_3) ∧ w'.cell? ⟨gb797, 4, none⟩ = some (.int .i64 a3_4) ∧ w'.cell? ⟨gb797, 5, none⟩ = some (.int .i64 a3_5) ∧ w'.cell? ⟨gb796, 0, none⟩ = some (.int .i64 a2_0) ∧ w'.cell? ⟨gb796, 1, none⟩ = some (.int .i64 a2_1) ∧ w'.cell? ⟨gb796, 2, none⟩ = some (.int .i64 a2_2) ∧ w'.cell? ⟨gb796, 3, none⟩ = some (.slice A2_3 l2_3.length c2_3)) (ds := []) #[false, false, false, false, false, false, false, false, false, false, false, false] (by kernel_rfl) rfl rfl ⟨(blk_cell BK797.out 0).trans rfl, (blk_cell BK797.out 1).trans rfl, (blk_cell BK797.out 2).trans rfl, (blk_cell BK797.out 3).trans rfl, (blk_cell BK797.out 4).trans rfl, (blk_cell BK797.out 5).trans rfl, (blk_cell BK796.out 0).trans rfl, (blk_cell BK796.out 1).trans rfl, (blk_cell BK796.out 2).trans rfl, (blk_cell BK796.out 3).trans rfl⟩ (fun hHeld => ?_); refine with_tabW spec_LeafHolds.tab11 spec_LeafHolds.bits11 (fun HT_ HW_ => ?_)
            generalize w37.drew = w40 at BK796 BK797 HB hHeld ⊢
            refine pure_ (i := 0) (N := some 54) (v := ?_) (a' := ?_) #[true, false, false, false, false, false, false, false, false, false, false, false] rfl rfl (any_of HT_.out (by kernel_rfl)) (fun _ _ _ h => h) (Or.inl ⟨by rfl, ?_⟩) ?_ ?_
            rotate_left
            · intro w'
              go_simp
              with_reducible rfl
            rotate_left
            · simp only [Act.put, List.setIfInBounds_toArray, List.set_cons_zero, List.set_cons_succ, i64_w, i32_w]
              rfl
            refine pure_ (i := 1) (N := some 55) (v := ?_) (a' := ?_) #[true, true, false, false, false, false, false, false, false, false, false, false] rfl rfl (any_of HT_.out (by kernel_rfl)) (fun _ _ _ h => h) (Or.inl ⟨by rfl, ?_⟩) ?_ ?_
            rotate_left
            · intro w'
              go_simp
              with_reducible rfl
            rotate_left
            · simp only [Act.put, List.setIfInBounds_toArray, List.set_cons_zero, List.set_cons_succ, i64_w, i32_w]
              rfl
            refine pure_ (i := 3) (N := some 57) (v := ?_) (a' := ?_) #[true, true, false, true, false, false, false, false, false, false, false, false] rfl rfl (any_of HT_.out (by kernel_rfl)) (fun _ _ _ h => h) (Or.inl ⟨by rfl, ?_⟩) ?_ ?_
            rotate_left
            · intro w'
              go_simp
              with_reducible rfl
            rotate_left
            · simp only [Act.put, List.setIfInBounds_toArray, List.set_cons_zero, List.set_cons_succ, i64_w, i32_w]
              rfl
            refine pure_ (i := 5) (N := some 59) (v := ?_) (a' := ?_) #[true, true, false, true, false, true, false, false, false, false, false, false] rfl rfl (any_of HT_.out (by kernel_rfl)) (fun _ _ _ h => h) (Or.inl ⟨by rfl, ?_⟩) ?_ ?_
            rotate_left
            · intro w'
              go_simp
              with_reducible rfl
            rotate_left
            · simp only [Act.put, List.setIfInBounds_toArray, List.set_cons_zero, List.set_cons_succ, i64_w, i32_w]
              rfl
            refine pure_ (i := 8) (N := some 62) (v := ?_) (a' := ?_) #[true, true, false, true, false, true, false, false, true, false, false, false] rfl rfl (any_of HT_.out (by kernel_rfl)) (fun _ _ _ h => h) (Or.inl ⟨by rfl, ?_⟩) ?_ ?_
            rotate_left
            · intro w'
              go_simp
              with_reducible rfl
            rotate_left
            · simp only [Act.put, List.setIfInBounds_toArray, List.set_cons_zero, List.set_cons_succ, i64_w, i32_w]
              rfl
            refine take_ (i := 2) (N := some 56) (v := ?_) (a' := ?_) #[true, true, true, true, false, true, false, false, true, false, false, false] rfl rfl (take_ofW HT_.out HW_.out (by kernel_rfl)) (fun _ _ _ h => h) (Or.inl ⟨by rfl, ?_⟩) hHeld ?_ ?_
            rotate_left
            · rintro w' ⟨s0, s1, s2, s3, s4, s5, s6, s7, s8, s9⟩
              go_simp
              with_reducible rfl
            rotate_left
            · simp only [Act.put, List.setIfInBounds_toArray, List.set_cons_zero, List.set_cons_succ, i64_w, i32_w]
              rfl
            refine take_ (i := 4) (N := some 58) (v := ?_) (a' := ?_) #[true, true, true, true, true, true, false, false, true, false, false, false] rfl rfl (take_ofW HT_.out HW_.out (by kernel_rfl)) (fun _ _ _ h => h) (Or.inl ⟨by rfl, ?_⟩) hHeld ?_ ?_
            rotate_left
            · rintro w' ⟨s0, s1, s2, s3, s4, s5, s6, s7, s8, s9⟩
              go_simp
              with_reducible rfl
            rotate_left
            · simp only [Act.put, List.setIfInBounds_toArray, List.set_cons_zero, List.set_cons_succ, i64_w, i32_w]
              rfl
            refine take_ (i := 6) (N := some 60) (v := ?_) (a' := ?_) #[true, true, true, true, true, true, true, false, true, false, false, false] rfl rfl (take_ofW HT_.out HW_.out (by kernel_rfl)) (fun _ _ _ h => h) (Or.inl ⟨by rfl, ?_⟩) hHeld ?_ ?_
            rotate_left
            · rintro w' ⟨s0, s1, s2, s3, s4, s5, s6, s7, s8, s9⟩
              go_simp
              with_reducible rfl
            rotate_left
            · simp only [Act.put, List.setIfInBounds_toArray, List.set_cons_zero, List.set_cons_succ, i64_w, i32_w]
              rfl
            refine take_ (i := 9) (N := some 63) (v := ?_) (a' := ?_) #[true, true, true, true, true, true, true, false, true, true, false, false] rfl rfl (take_ofW HT_.out HW_.out (by kernel_rfl)) (fun _ _ _ h => h) (Or.inl ⟨by rfl, ?_⟩) hHeld ?_ ?_
            rotate_left
            · rintro w' ⟨s0, s1, s2, s3, s4, s5, s6, s7, s8, s9⟩
              go_simp
              with_reducible rfl
            rotate_left
            · simp only [Act.put, List.setIfInBounds_toArray, List.set_cons_zero, List.set_cons_succ, i64_w, i32_w]
              rfl
            refine one_ (i := 7) (N := some 61) #[true, true, true, true, true, true, true, true, true, true, false, false] rfl rfl (one_of HT_.out (by kernel_rfl)) (by decide) (fun K hK => ?_)
            refine goes_ Try.func148 (by kernel_rfl) rfl #[.slice A1 l1.length c1, .int .i64 4, .int .i64 a3_2, .int .i64 a3_5, .int .i64 a2_2] (by rfl) rfl rfl (by (try simp only [List.map_toArray, List.map_cons, List.map_nil]); first | done | rfl | (simp only [List.length_drop, List.length_take]; rfl)) ?_
            with_reducible refine (spec_BestValue.calls k _ _ l1 4 a3_2 a3_5 a2_2 t801 _ ?side1 ?side2 A35.out).mono ?_
            (case side1 => repeat (first | exact (Kd.C_below HR1.out HB.out) | (with_reducible refine Kd.C_alloc ?_ _) | (with_reducible refine Kd.C_drewN ?_ _) | (with_reducible refine Kd.C_drew ?_)))
            (case side2 => exact HC1.out)
            rintro e w41 ⟨rfl, hb⟩
            refine ⟨_, rfl, ?_⟩
            have n0_ := Aside0.mk (blk_below (rb BK796.out) hb)
            have n1_ := Aside0.mk (blk_below (rb BK797.out) hb)
            have n2_ := Aside0.mk (below_step (bb HB.out) hb)
            clear BK796
            clear BK797
            clear HB
            have BK796 := n0_
            have BK797 := n1_
            have HB := n2_
            clear n0_ n1_ n2_
            (try clear hb)
            (try clear hb2)
            (try clear hk)
            (try clear hi)
            refine hK.out _ _ ⟨(blk_cell BK797.out 0).trans rfl, (blk_cell BK797.out 1).trans rfl, (blk_cell BK797.out 2).trans rfl, (blk_cell BK797.out 3).trans rfl, (blk_cell BK797.out 4).trans rfl, (blk_cell BK797.out 5).trans rfl, (blk_cell BK796.out 0).trans rfl, (blk_cell BK796.out 1).trans rfl, (blk_cell BK796.out 2).trans rfl, (blk_cell BK796.out 3).trans rfl⟩ (fun hHeld => ?_)
            clear hK K
            refine norm_ (a' := ?_) ?_ ?_
            rotate_left
            · show Act.put _ (some 61) _ = _
              simp only [Act.put, List.setIfInBounds_toArray, List.set_cons_zero, List.set_cons_succ, i64_w, i32_w]
              rfl
            refine pure_ (i := 10) (N := some 64) (v := ?_) (a' := ?_) #[true, true, true, true, true, true, true, true, true, true, true, false] rfl rfl (any_of HT_.out (by kernel_rfl)) (fun _ _ _ h => h) (Or.inl ⟨by rfl, ?_⟩) ?_ ?_
            rotate_left
            · intro w'
              go_simp
              with_reducible rfl
            rotate_left
            · simp only [Act.put, List.setIfInBounds_toArray, List.set_cons_zero, List.set_cons_succ, i64_w, i32_w]
              rfl
            refine pure_ (i := 11) (N := some 8) (v := ?_) (a' := ?_) #[true, true, true, true, true, true, true, true, true, true, true, true] rfl rfl (any_of HT_.out (by kernel_rfl)) (fun _ _ _ h => h) (Or.inl ⟨by rfl, ?_⟩) ?_ ?_
            rotate_left
            · intro w'
              go_simp
              with_reducible rfl
            rotate_left
            · simp only [Act.put, List.setIfInBounds_toArray, List.set_cons_zero, List.set_cons_succ, i64_w, i32_w]
              rfl
            refine done_ (done_of HT_.out (by kernel_rfl)) ?_
            try go_wp2
            go_ret
            exact ⟨by first | rfl | (simp [errW_none, errW_some] <;> rfl) | (simp [*, errW_none, errW_some] <;> rfl), bb HB.out⟩
          · rw [if_neg c34] at H
            have c34b0 : (a2_0 == 5) = false := beq_eq_false_iff_ne.mpr c34
            have c34b1 : (a2_0 != 5) = true := bne_iff_ne.mpr c34
            by_cases c42 : a2_0 = 6
            · rw [if_pos c42] at H
              have c42b0 : (a2_0 == 6) = true := beq_iff_eq.mpr c42
              have c42b1 : (a2_0 != 6) = false := bne_eq_false_iff_eq.mpr c42
              clear c42
              obtain rfl := Option.some.inj H
              go_enter Try.func67, Try.ntmps67
              go_wp2_with (first | ((with_reducible refine gate_dst (N := 6) rfl ?_); refine box_event ?hg (N := 6) ?hd (cs := #[.int .i64 a2_0, .int .i64 a2_1, .int .i64 a2_2, .slice A2_3 l2_3.length c2_3]) (t := 109) ?hr ?_; (case hd => rfl); (case hg => rfl); (case hr => first | (go_simp; done) | (go_simp; rfl)); intro gb796 hg w43 hbox hb; have n0_ := Aside0.mk (below_step (bb HB.out) hb); have n1_ := Aside0.mk (hbox); have n2_ := Aside0.mk ((by rw [hg]; exact (below_size (bb HB.out)) : w.heap.size ≤ gb796)); have n3_ := Aside0.mk ((by rw [hg]; exact (below_size (bb HB.out)) : w.heap.size ≤ gb796)); clear HB; have HB := n0_; have BK796 := n1_; have GW796 := n2_; have GE796 := n3_; clear n0_ n1_ n2_ n3_; clear hb hbox hg) | ((with_reducible refine gate_dst (N := 7) rfl ?_); refine box_event ?hg (N := 7) ?hd (cs := #[.int .i64 a3_0, .int .i64 a3_1, .int .i64 a3_2, .int .i64 a3_3, .int .i64 a3_4, .int .i64 a3_5]) (t := 111) ?hr ?_; (case hd => rfl); (case hg => rfl); (case hr => first | (go_simp; done) | (go_simp; rfl)); intro gb797 hg w44 hbox hb; have n0_ := Aside0.mk (blk_below (rb BK796.out) hb); have n1_ := Aside0.mk (below_step (bb HB.out) hb); have n2_ := Aside0.mk (hbox); have n3_ := Aside0.mk ((by rw [hg]; exact (below_size (bb HB.out)) : w.heap.size ≤ gb797)); have n4_ := Aside0.mk ((by rw [hg]; exact (below_size (bb HB.out)) : w.heap.size ≤ gb797)); have n5_ := Aside0.mk ((by rw [hg]; exact Nat.ne_of_lt (blk_lt (g := gb796) (o := .cells #[.int .i64 a2_0, .int .i64 a2_1, .int .i64 a2_2, .slice A2_3 l2_3.length c2_3] 109 (0, 0)) (rb BK796.out)) : gb796 ≠ gb797)); have n6_ := Aside0.mk ((by rw [hg]; exact Nat.ne_of_gt (blk_lt (g := gb796) (o := .cells #[.int .i64 a2_0, .int .i64 a2_1, .int .i64 a2_2, .slice A2_3 l2_3.length c2_3] 109 (0, 0)) (rb BK796.out)) : gb797 ≠ gb796)); clear BK796; clear HB; have BK796 := n0_; have HB := n1_; have BK797 := n2_; have GW797 := n3_; have GE797 := n4_; have NB796_797 := n5_; have NB797_796 := n6_; clear n0_ n1_ n2_ n3_ n4_ n5_ n6_; clear hb hbox hg; have hnb45 := NB796_797.out; have hnc45 := NB797_796.out; have hcz46_0 := cz BK796.out 0 (.int .i64 a2_0); have hcz46_1 := cz BK796.out 1 (.int .i64 a2_1); have hcz46_2 := cz BK796.out 2 (.int .i64 a2_2); have hcz46_3 := cz BK796.out 3 (.slice A2_3 l2_3.length c2_3); have hfz46_0 := blk_frozen BK796.out 0; have hfz46_1 := blk_frozen BK796.out 1; have hfz46_2 := blk_frozen BK796.out 2; have hfz46_3 := blk_frozen BK796.out 3; have hcz47_0 := cz BK797.out 0 (.int .i64 a3_0); have hcz47_1 := cz BK797.out 1 (.int .i64 a3_1); have hcz47_2 := cz BK797.out 2 (.int .i64 a3_2); have hcz47_3 := cz BK797.out 3 (.int .i64 a3_3); have hcz47_4 := cz BK797.out 4 (.int .i64 a3_4); have hcz47_5 := cz BK797.out 5 (.int .i64 a3_5); have hfz47_0 := blk_frozen BK797.out 0; have hfz47_1 := blk_frozen BK797.out 1; have hfz47_2 := blk_frozen BK797.out 2; have hfz47_3 := blk_frozen BK797.out 3; have hfz47_4 := blk_frozen BK797.out 4; have hfz47_5 := blk_frozen BK797.out 5))
              go_ret
              exact ⟨by first | rfl | (simp [errW_none, errW_some] <;> rfl) | (simp [*, errW_none, errW_some] <;> rfl), bb HB.out⟩
            · rw [if_neg c42] at H
              have c42b0 : (a2_0 == 6) = false := beq_eq_false_iff_ne.mpr c42
              have c42b1 : (a2_0 != 6) = true := bne_iff_ne.mpr c42
              obtain rfl := Option.some.inj H
              go_enter Try.func67, Try.ntmps67
              go_wp2_with (first | ((with_reducible refine gate_dst (N := 6) rfl ?_); refine box_event ?hg (N := 6) ?hd (cs := #[.int .i64 a2_0, .int .i64 a2_1, .int .i64 a2_2, .slice A2_3 l2_3.length c2_3]) (t := 109) ?hr ?_; (case hd => rfl); (case hg => rfl); (case hr => first | (go_simp; done) | (go_simp; rfl)); intro gb796 hg w48 hbox hb; have n0_ := Aside0.mk (below_step (bb HB.out) hb); have n1_ := Aside0.mk (hbox); have n2_ := Aside0.mk ((by rw [hg]; exact (below_size (bb HB.out)) : w.heap.size ≤ gb796)); have n3_ := Aside0.mk ((by rw [hg]; exact (below_size (bb HB.out)) : w.heap.size ≤ gb796)); clear HB; have HB := n0_; have BK796 := n1_; have GW796 := n2_; have GE796 := n3_; clear n0_ n1_ n2_ n3_; clear hb hbox hg) | ((with_reducible refine gate_dst (N := 7) rfl ?_); refine box_event ?hg (N := 7) ?hd (cs := #[.int .i64 a3_0, .int .i64 a3_1, .int .i64 a3_2, .int .i64 a3_3, .int .i64 a3_4, .int .i64 a3_5]) (t := 111) ?hr ?_; (case hd => rfl); (case hg => rfl); (case hr => first | (go_simp; done) | (go_simp; rfl)); intro gb797 hg w49 hbox hb; have n0_ := Aside0.mk (blk_below (rb BK796.out) hb); have n1_ := Aside0.mk (below_step (bb HB.out) hb); have n2_ := Aside0.mk (hbox); have n3_ := Aside0.mk ((by rw [hg]; exact (below_size (bb HB.out)) : w.heap.size ≤ gb797)); have n4_ := Aside0.mk ((by rw [hg]; exact (below_size (bb HB.out)) : w.heap.size ≤ gb797)); have n5_ := Aside0.mk ((by rw [hg]; exact Nat.ne_of_lt (blk_lt (g := gb796) (o := .cells #[.int .i64 a2_0, .int .i64 a2_1, .int .i64 a2_2, .slice A2_3 l2_3.length c2_3] 109 (0, 0)) (rb BK796.out)) : gb796 ≠ gb797)); have n6_ := Aside0.mk ((by rw [hg]; exact Nat.ne_of_gt (blk_lt (g := gb796) (o := .cells #[.int .i64 a2_0, .int .i64 a2_1, .int .i64 a2_2, .slice A2_3 l2_3.length c2_3] 109 (0, 0)) (rb BK796.out)) : gb797 ≠ gb796)); clear BK796; clear HB; have BK796 := n0_; have HB := n1_; have BK797 := n2_; have GW797 := n3_; have GE797 := n4_; have NB796_797 := n5_; have NB797_796 := n6_; clear n0_ n1_ n2_ n3_ n4_ n5_ n6_; clear hb hbox hg; have hnb50 := NB796_797.out; have hnc50 := NB797_796.out; have hcz51_0 := cz BK796.out 0 (.int .i64 a2_0); have hcz51_1 := cz BK796.out 1 (.int .i64 a2_1); have hcz51_2 := cz BK796.out 2 (.int .i64 a2_2); have hcz51_3 := cz BK796.out 3 (.slice A2_3 l2_3.length c2_3); have hfz51_0 := blk_frozen BK796.out 0; have hfz51_1 := blk_frozen BK796.out 1; have hfz51_2 := blk_frozen BK796.out 2; have hfz51_3 := blk_frozen BK796.out 3))
              go_ret
              exact ⟨by first | rfl | (simp [errW_none, errW_some] <;> rfl) | (simp [*, errW_none, errW_some] <;> rfl), bb HB.out⟩
def laws_toFact.f (a0_0 : Int) (a0_1 : Int) (a0_2 : Int) (a0_3 : Int) (a0_4 : Int) (a0_5 : Int) : Option (Int × Int × Int × Int × Int × Int) := some (a0_0, a0_1, a0_2, a0_3, a0_4, a0_5)
set_option maxHeartbeats 8000000 in
set_option maxRecDepth 100000 in
theorem laws_toFact.calls (a0_0 : Int) (a0_1 : Int) (a0_2 : Int) (a0_3 : Int) (a0_4 : Int) (a0_5 : Int) (r1 : Int) (r2 : Int) (r3 : Int) (r4 : Int) (r5 : Int) (r6 : Int) (w : World) (h : laws_toFact.f a0_0 a0_1 a0_2 a0_3 a0_4 a0_5 = some (r1, r2, r3, r4, r5, r6)) :
    Calls Try.prog 149 #[.agg #[.int .i64 a0_0, .int .i64 a0_1, .int .i64 a0_2, .int .i64 a0_3, .int .i64 a0_4, .int .i64 a0_5]] w fun e w' => e = .returned (.agg #[.int .i64 r1, .int .i64 r2, .int .i64 r3, .int .i64 r4, .int .i64 r5, .int .i64 r6]) ∧ Below w.heap.size w w' := by
  have hu189 := Try.underlying189
  have hu119 := Try.underlying119
  have HB := Aside0.mk (Below.refl w.heap.size w)
  have H : (some (a0_0, a0_1, a0_2, a0_3, a0_4, a0_5)) = some (r1, r2, r3, r4, r5, r6) := h
  clear h
  simp only [Option.some.injEq, Prod.mk.injEq] at H
  obtain ⟨rfl, rfl, rfl, rfl, rfl, rfl⟩ := H
  go_enter Try.func149, Try.ntmps149
  go_wp2_with (first | ((with_reducible refine gate_dst (N := 1) rfl ?_); refine box_event ?hg (N := 1) ?hd (cs := #[.int .i64 a0_0, .int .i64 a0_1, .int .i64 a0_2, .int .i64 a0_3, .int .i64 a0_4, .int .i64 a0_5]) (t := 189) ?hr ?_; (case hd => rfl); (case hg => rfl); (case hr => first | (go_simp; done) | (go_simp; rfl)); intro gb802 hg w2 hbox hb; have n0_ := Aside0.mk (below_step (bb HB.out) hb); have n1_ := Aside0.mk (hbox); have n2_ := Aside0.mk ((by rw [hg]; exact (below_size (bb HB.out)) : w.heap.size ≤ gb802)); have n3_ := Aside0.mk ((by rw [hg]; exact (below_size (bb HB.out)) : w.heap.size ≤ gb802)); clear HB; have HB := n0_; have BK802 := n1_; have GW802 := n2_; have GE802 := n3_; clear n0_ n1_ n2_ n3_; clear hb hbox hg) | ((with_reducible refine gate_dst (N := 2) rfl ?_); refine box_event ?hg (N := 2) ?hd (cs := #[.int .i64 0, .int .i64 0, .int .i64 0, .int .i64 0, .int .i64 0, .int .i64 0]) (t := 119) ?hr ?_; (case hd => rfl); (case hg => rfl); (case hr => first | (go_simp; done) | (go_simp; rfl)); intro gb803 hg w3 hbox hb; have n0_ := Aside0.mk (blk_below (rb BK802.out) hb); have n1_ := Aside0.mk (below_step (bb HB.out) hb); have n2_ := Aside0.mk (hbox); have n3_ := Aside0.mk ((by rw [hg]; exact (below_size (bb HB.out)) : w.heap.size ≤ gb803)); have n4_ := Aside0.mk ((by rw [hg]; exact (below_size (bb HB.out)) : w.heap.size ≤ gb803)); have n5_ := Aside0.mk ((by rw [hg]; exact Nat.ne_of_lt (blk_lt (g := gb802) (o := .cells #[.int .i64 a0_0, .int .i64 a0_1, .int .i64 a0_2, .int .i64 a0_3, .int .i64 a0_4, .int .i64 a0_5] 189 (0, 0)) (rb BK802.out)) : gb802 ≠ gb803)); have n6_ := Aside0.mk ((by rw [hg]; exact Nat.ne_of_gt (blk_lt (g := gb802) (o := .cells #[.int .i64 a0_0, .int .i64 a0_1, .int .i64 a0_2, .int .i64 a0_3, .int .i64 a0_4, .int .i64 a0_5] 189 (0, 0)) (rb BK802.out)) : gb803 ≠ gb802)); clear BK802; clear HB; have BK802 := n0_; have HB := n1_; have BK803 := n2_; have GW803 := n3_; have GE803 := n4_; have NB802_803 := n5_; have NB803_802 := n6_; clear n0_ n1_ n2_ n3_ n4_ n5_ n6_; clear hb hbox hg) | ((with_reducible refine gate_dst (N := 3) rfl ?_); refine box_event ?hg (N := 3) ?hd (cs := #[.int .i64 0, .int .i64 0, .int .i64 0, .int .i64 0, .int .i64 0, .int .i64 0]) (t := 119) ?hr ?_; (case hd => rfl); (case hg => rfl); (case hr => first | (go_simp; done) | (go_simp; rfl)); intro gb804 hg w4 hbox hb; have n0_ := Aside0.mk (blk_below (rb BK802.out) hb); have n1_ := Aside0.mk (blk_below (rb BK803.out) hb); have n2_ := Aside0.mk (below_step (bb HB.out) hb); have n3_ := Aside0.mk (hbox); have n4_ := Aside0.mk ((by rw [hg]; exact (below_size (bb HB.out)) : w.heap.size ≤ gb804)); have n5_ := Aside0.mk ((by rw [hg]; exact (below_size (bb HB.out)) : w.heap.size ≤ gb804)); have n6_ := Aside0.mk ((by rw [hg]; exact Nat.ne_of_lt (blk_lt (g := gb802) (o := .cells #[.int .i64 a0_0, .int .i64 a0_1, .int .i64 a0_2, .int .i64 a0_3, .int .i64 a0_4, .int .i64 a0_5] 189 (0, 0)) (rb BK802.out)) : gb802 ≠ gb804)); have n7_ := Aside0.mk ((by rw [hg]; exact Nat.ne_of_gt (blk_lt (g := gb802) (o := .cells #[.int .i64 a0_0, .int .i64 a0_1, .int .i64 a0_2, .int .i64 a0_3, .int .i64 a0_4, .int .i64 a0_5] 189 (0, 0)) (rb BK802.out)) : gb804 ≠ gb802)); have n8_ := Aside0.mk ((by rw [hg]; exact Nat.ne_of_lt (blk_lt (g := gb803) (o := .cells #[.int .i64 0, .int .i64 0, .int .i64 0, .int .i64 0, .int .i64 0, .int .i64 0] 119 (0, 0)) (rb BK803.out)) : gb803 ≠ gb804)); have n9_ := Aside0.mk ((by rw [hg]; exact Nat.ne_of_gt (blk_lt (g := gb803) (o := .cells #[.int .i64 0, .int .i64 0, .int .i64 0, .int .i64 0, .int .i64 0, .int .i64 0] 119 (0, 0)) (rb BK803.out)) : gb804 ≠ gb803)); clear BK802; clear BK803; clear HB; have BK802 := n0_; have BK803 := n1_; have HB := n2_; have BK804 := n3_; have GW804 := n4_; have GE804 := n5_; have NB802_804 := n6_; have NB804_802 := n7_; have NB803_804 := n8_; have NB804_803 := n9_; clear n0_ n1_ n2_ n3_ n4_ n5_ n6_ n7_ n8_ n9_; clear hb hbox hg; have hnb5 := NB802_803.out; have hnc5 := NB803_802.out; have hnb6 := NB802_804.out; have hnc6 := NB804_802.out; have hcz7_0 := cz BK802.out 0 (.int .i64 a0_0); have hcz7_1 := cz BK802.out 1 (.int .i64 a0_1); have hcz7_2 := cz BK802.out 2 (.int .i64 a0_2); have hcz7_3 := cz BK802.out 3 (.int .i64 a0_3); have hcz7_4 := cz BK802.out 4 (.int .i64 a0_4); have hcz7_5 := cz BK802.out 5 (.int .i64 a0_5); have hfz7_0 := blk_frozen BK802.out 0; have hfz7_1 := blk_frozen BK802.out 1; have hfz7_2 := blk_frozen BK802.out 2; have hfz7_3 := blk_frozen BK802.out 3; have hfz7_4 := blk_frozen BK802.out 4; have hfz7_5 := blk_frozen BK802.out 5; have hnb8 := NB804_803.out; have hnc8 := NB803_804.out; have hcz9_0 := cz BK804.out 0 (.int .i64 0); have hcz9_1 := cz BK804.out 1 (.int .i64 0); have hcz9_2 := cz BK804.out 2 (.int .i64 0); have hcz9_3 := cz BK804.out 3 (.int .i64 0); have hcz9_4 := cz BK804.out 4 (.int .i64 0); have hcz9_5 := cz BK804.out 5 (.int .i64 0); have hfz9_0 := blk_frozen BK804.out 0; have hfz9_1 := blk_frozen BK804.out 1; have hfz9_2 := blk_frozen BK804.out 2; have hfz9_3 := blk_frozen BK804.out 3; have hfz9_4 := blk_frozen BK804.out 4; have hfz9_5 := blk_frozen BK804.out 5; have hcz10_0 := cz BK803.out 0 (.int .i64 0); have hcz10_1 := cz BK803.out 1 (.int .i64 0); have hcz10_2 := cz BK803.out 2 (.int .i64 0); have hcz10_3 := cz BK803.out 3 (.int .i64 0); have hcz10_4 := cz BK803.out 4 (.int .i64 0); have hcz10_5 := cz BK803.out 5 (.int .i64 0); have hfz10_0 := blk_frozen BK803.out 0; have hfz10_1 := blk_frozen BK803.out 1; have hfz10_2 := blk_frozen BK803.out 2; have hfz10_3 := blk_frozen BK803.out 3; have hfz10_4 := blk_frozen BK803.out 4; have hfz10_5 := blk_frozen BK803.out 5))
  refine bodyPost_ret (results_cell_row rfl _ _ gb803 119 #[.int .i64 a0_0, .int .i64 a0_1, .int .i64 a0_2, .int .i64 a0_3, .int .i64 a0_4, .int .i64 a0_5] (0, 0) _ rfl (by (with_reducible repeat (first | refine blk_drewN ?_ _ | refine blk_drew ?_ | refine blk_alloc ?_ _)); refine blk_put (cs := #[.int .i64 a0_0, .int .i64 a0_1, .int .i64 a0_2, .int .i64 a0_3, .int .i64 a0_4, .int .i64 0]) ?_ 5 _ rfl; (with_reducible repeat (first | refine blk_drewN ?_ _ | refine blk_drew ?_ | refine blk_alloc ?_ _)); refine blk_put (cs := #[.int .i64 a0_0, .int .i64 a0_1, .int .i64 a0_2, .int .i64 a0_3, .int .i64 0, .int .i64 0]) ?_ 4 _ rfl; (with_reducible repeat (first | refine blk_drewN ?_ _ | refine blk_drew ?_ | refine blk_alloc ?_ _)); refine blk_put (cs := #[.int .i64 a0_0, .int .i64 a0_1, .int .i64 a0_2, .int .i64 0, .int .i64 0, .int .i64 0]) ?_ 3 _ rfl; (with_reducible repeat (first | refine blk_drewN ?_ _ | refine blk_drew ?_ | refine blk_alloc ?_ _)); refine blk_put (cs := #[.int .i64 a0_0, .int .i64 a0_1, .int .i64 0, .int .i64 0, .int .i64 0, .int .i64 0]) ?_ 2 _ rfl; (with_reducible repeat (first | refine blk_drewN ?_ _ | refine blk_drew ?_ | refine blk_alloc ?_ _)); refine blk_put (cs := #[.int .i64 a0_0, .int .i64 0, .int .i64 0, .int .i64 0, .int .i64 0, .int .i64 0]) ?_ 1 _ rfl; (with_reducible repeat (first | refine blk_drewN ?_ _ | refine blk_drew ?_ | refine blk_alloc ?_ _)); refine blk_put (cs := #[.int .i64 0, .int .i64 0, .int .i64 0, .int .i64 0, .int .i64 0, .int .i64 0]) ?_ 0 _ rfl; (with_reducible repeat (first | refine blk_drewN ?_ _ | refine blk_drew ?_ | refine blk_alloc ?_ _)); refine blk_far ?_ NB803_804.out _; (with_reducible repeat (first | refine blk_drewN ?_ _ | refine blk_drew ?_ | refine blk_alloc ?_ _)); refine blk_far ?_ NB803_804.out _; (with_reducible repeat (first | refine blk_drewN ?_ _ | refine blk_drew ?_ | refine blk_alloc ?_ _)); refine blk_far ?_ NB803_804.out _; (with_reducible repeat (first | refine blk_drewN ?_ _ | refine blk_drew ?_ | refine blk_alloc ?_ _)); refine blk_far ?_ NB803_804.out _; (with_reducible repeat (first | refine blk_drewN ?_ _ | refine blk_drew ?_ | refine blk_alloc ?_ _)); refine blk_far ?_ NB803_804.out _; (with_reducible repeat (first | refine blk_drewN ?_ _ | refine blk_drew ?_ | refine blk_alloc ?_ _)); refine blk_far ?_ NB803_804.out _; (with_reducible repeat (first | refine blk_drewN ?_ _ | refine blk_drew ?_ | refine blk_alloc ?_ _)); exact BK803.out) Try.underlying119 rfl (by kernel_rfl)) rfl ?_
  exact ⟨by first | rfl | (simp [errW_none, errW_some] <;> rfl) | (simp [*, errW_none, errW_some] <;> rfl), bb HB.out⟩
def laws_toFactS.l0 : Nat → List (S189) → List (S119) → Int → Option ((List (S119)))
  | 0, _, _, _ => none
  | k + 1, x0, x3, x4 => if x4 < (x0.length : Int) then (if 0 ≤ x4 then ((laws_toFact.f ((rd_T189 x0 x4).f0) ((rd_T189 x0 x4).f1) ((rd_T189 x0 x4).f2) ((rd_T189 x0 x4).f3) ((rd_T189 x0 x4).f4) ((rd_T189 x0 x4).f5)).bind fun bt809 => (if x4 < (x3.length : Int) then (laws_toFactS.l0 k x0 (x3.set (x4 : Int).toNat (⟨bt809.1, bt809.2.1, bt809.2.2.1, bt809.2.2.2.1, bt809.2.2.2.2.1, bt809.2.2.2.2.2⟩ : S119)) (wrap64 (x4 + 1))) else (none))) else (none)) else (some x3)
def laws_toFactS.f (k : Nat) (l0 : List (S189)) : Option ((List (S119))) := if 0 ≤ (l0.length : Int) then (if ((l0.length : Int) : Int).toNat ≤ 5864062014805 then (laws_toFactS.l0 k l0 (List.replicate ((l0.length : Int) : Int).toNat z119) 0) else (none)) else (none)
set_option maxHeartbeats 8000000 in
set_option maxRecDepth 100000 in
theorem laws_toFactS.calls (k : Nat) (A0 : Option Addr) (c0 : Nat) (l0 : List (S189)) (r : List (S119)) (w : World) (hr0 : Kd.C k189 w A0 l0.length l0) (hc0 : l0.length ≤ c0) (h : laws_toFactS.f k l0 = some r) :
    Calls Try.prog 68 #[.slice A0 l0.length c0] w fun e w' => ∃ v0_ : Value, e = .returned (v0_) ∧ Kd.R k119 119 w' w.heap.size (fun _ => True) v0_ r ∧ Below w.heap.size w w' := by
  have hu189 := Try.underlying189
  have hu119 := Try.underlying119
  have HR0 := Aside0.mk hr0
  have HC0 := Aside0.mk hc0
  clear hr0 hc0
  have HB := Aside0.mk (Below.refl w.heap.size w)
  have H : (if 0 ≤ (l0.length : Int) then (if ((l0.length : Int) : Int).toNat ≤ 5864062014805 then (laws_toFactS.l0 k l0 (List.replicate ((l0.length : Int) : Int).toNat z119) 0) else (none)) else (none)) = some r := h
  clear h
  by_cases c2 : 0 ≤ (l0.length : Int)
  · rw [if_pos c2] at H
    have c2b0 := eq_true c2
    have c2b1 : decide (0 ≤ (l0.length : Int)) = true := decide_eq_true c2
    clear c2
    by_cases c3 : ((l0.length : Int) : Int).toNat ≤ 5864062014805
    · rw [if_pos c3] at H
      have c3b0 := eq_true c3
      have c3b1 : decide (((l0.length : Int) : Int).toNat ≤ 5864062014805) = true := decide_eq_true c3
      clear c3
      obtain ⟨y805, hy805⟩ : ∃ y_ : List (S119), y_ = (List.replicate ((l0.length : Int) : Int).toNat z119) := ⟨_, rfl⟩
      replace H : (laws_toFactS.l0 k l0 y805 0) = some r := by first | (rw [hy805]; with_reducible exact H) | (have H2_ := (Option.bind_some _ _).symm.trans H; rw [hy805]; with_reducible exact H2_) | (have H2_ := (Option.bind_some _ _).symm.trans H; with_reducible exact H2_) | with_reducible exact H | (rw [hy805]; exact H) | exact H
      have Ny805 := Aside0.mk hy805
      clear hy805
      have H' := Aside0.mk H
      clear H
      go_enter Try.func68, Try.ntmps68
      go_wp2_with (first | ((with_reducible refine gate_dst (N := 7) rfl ?_); refine Kd.R_make k119 _ 119 rfl (N := 7) rfl 106 _ _ rfl (l0.length : Int) rfl rfl Try.underlying106 (.agg #[(.int .i64 0), (.int .i64 0), (.int .i64 0), (.int .i64 0), (.int .i64 0), (.int .i64 0)]) 48 info119 rfl (by decide) (by omega) z119 (ok := fun _ => True) (okp := fun _ => True) (k119_mkM _ _ _ z119 ) (fun _ hk => hk) trivial (of_decide_eq_true (by first | (with_reducible assumption) | assumption)) (Nat.le_trans (Nat.mul_le_mul_right _ (of_decide_eq_true (by first | (with_reducible assumption) | assumption) : (l0.length : Int).toNat ≤ 5864062014805)) (by omega)) (Below.refl _ _) (Nat.le_refl _) ?_; intro v806 w4 ho5 hb hg_ hnew_; clear hg_ hnew_; (first | rw [← Ny805.out] at ho5 | (simp only [Int.reduceToNat] at ho5; rw [← Ny805.out] at ho5)); have n0_ := Aside0.mk (Kd.R_lower ho5 (below_size (bb HB.out))); have n1_ := Aside0.mk (below_step (bb HB.out) hb); clear HB; have HO807 := n0_; have HB := n1_; clear n0_ n1_; clear hb ho5))
      go_loopg [4] k (fun kq v4 w' => ∃ (x3_1 : List (S119)) (x4_1 : Int), v4 = .int .i64 x4_1 ∧ Aside0 (laws_toFactS.l0 kq l0 x3_1 x4_1 = some r) ∧ Aside0 (kq ≤ k) ∧ Aside0 (Kd.R k119 119 w' w.heap.size (fun _ => True) v806 x3_1) ∧ Aside0 (Below w.heap.size w w'))
      case atStart => exact ⟨(y805), (0), (by first | rfl | (simp; done) | (simp [*]; done)), H', ⟨Nat.le_refl _⟩, ⟨rr HO807.out⟩, ⟨bb HB.out⟩⟩
      case round =>
        clear H'
        try clear c2
        try clear c2b0
        try clear c2b1
        try clear p2
        try clear c3
        try clear c3b0
        try clear c3b1
        obtain ⟨x3_1, x4_1, rfl, HA, HK1, HO_3, HB⟩ := hrel
        cases gk with
        | zero => exact absurd HA.out (by simp [laws_toFactS.l0])
        | succ k1 =>
          have H := HA.out
          clear HA
          simp only [laws_toFactS.l0] at H
          by_cases c6 : x4_1 < (l0.length : Int)
          · rw [if_pos c6] at H
            have c6b0 : decide (x4_1 < (l0.length : Int)) = true := decide_eq_true c6
            clear c6
            by_cases c7 : 0 ≤ x4_1
            · rw [if_pos c7] at H
              have c7b0 : decide (0 ≤ x4_1) = true := decide_eq_true c7
              clear c7
              replace H := Option.bind_eq_some_iff.mp H
              obtain ⟨⟨t809, t810, t811, t812, t813, t814⟩, A80, H⟩ := H
              replace H : (if x4_1 < (x3_1.length : Int) then (laws_toFactS.l0 k1 l0 (x3_1.set (x4_1 : Int).toNat (⟨t809, t810, t811, t812, t813, t814⟩ : S119)) (wrap64 (x4_1 + 1))) else (none)) = some r := H
              have A8 := Aside0.mk A80
              clear A80
              by_cases c9 : x4_1 < (x3_1.length : Int)
              · rw [if_pos c9] at H
                have c9b0 : decide (x4_1 < (x3_1.length : Int)) = true := decide_eq_true c9
                clear c9
                obtain ⟨y815, hy815⟩ : ∃ y_ : List (S119), y_ = (x3_1.set (x4_1 : Int).toNat (⟨t809, t810, t811, t812, t813, t814⟩ : S119)) := ⟨_, rfl⟩
                replace H : (laws_toFactS.l0 k1 l0 y815 (wrap64 (x4_1 + 1))) = some r := by first | (rw [hy815]; with_reducible exact H) | (have H2_ := (Option.bind_some _ _).symm.trans H; rw [hy815]; with_reducible exact H2_) | (have H2_ := (Option.bind_some _ _).symm.trans H; with_reducible exact H2_) | with_reducible exact H | (rw [hy815]; exact H) | exact H
                have Ny815 := Aside0.mk hy815
                clear hy815
                have H' := Aside0.mk H
                clear H
                have p808 : 0 ≤ (x4_1 : Int) := of_decide_eq_true (by first | (with_reducible assumption) | assumption)
                have q808 : x4_1 < (l0.length : Int) := of_decide_eq_true (by first | (with_reducible assumption) | assumption)
                obtain ⟨ad808, e808, hx808_0, hx808_1, hx808_2, hx808_3, hx808_4, hx808_5⟩ := at_T189 HR0.out x4_1 p808 q808
                cases e808
                replace hx808_0 := (HB.out.cell (World.block_lt_of_cell? w _ hx808_0)).trans hx808_0
                replace hx808_1 := (HB.out.cell (World.block_lt_of_cell? w _ hx808_1)).trans hx808_1
                replace hx808_2 := (HB.out.cell (World.block_lt_of_cell? w _ hx808_2)).trans hx808_2
                replace hx808_3 := (HB.out.cell (World.block_lt_of_cell? w _ hx808_3)).trans hx808_3
                replace hx808_4 := (HB.out.cell (World.block_lt_of_cell? w _ hx808_4)).trans hx808_4
                replace hx808_5 := (HB.out.cell (World.block_lt_of_cell? w _ hx808_5)).trans hx808_5
                replace p808 := eq_true p808
                replace q808 := eq_true q808
                go_wp2_with (first | ((with_reducible refine gate_callee (f := 149) rfl ?_); refine gm (some 20) Try.func149 #[.agg #[.int .i64 ((rd_T189 l0 x4_1).f0), .int .i64 ((rd_T189 l0 x4_1).f1), .int .i64 ((rd_T189 l0 x4_1).f2), .int .i64 ((rd_T189 l0 x4_1).f3), .int .i64 ((rd_T189 l0 x4_1).f4), .int .i64 ((rd_T189 l0 x4_1).f5)]] ?_; (with_reducible refine (laws_toFact.calls ((rd_T189 l0 x4_1).f0) ((rd_T189 l0 x4_1).f1) ((rd_T189 l0 x4_1).f2) ((rd_T189 l0 x4_1).f3) ((rd_T189 l0 x4_1).f4) ((rd_T189 l0 x4_1).f5) t809 t810 t811 t812 t813 t814 _ A8.out).mono ?_); rintro e w11 ⟨rfl, hb⟩; refine ⟨_, rfl, ?_⟩; have n0_ := Aside0.mk (Kd.R_below (rr HO_3.out) hb); have n1_ := Aside0.mk (below_step (bb HB.out) hb); clear HO_3; clear HB; have HO_3 := n0_; have HB := n1_; clear n0_ n1_; (try clear hb); (try clear hb2); (try clear hk); (try clear hi); have p10 : 0 ≤ (x4_1 : Int) := of_decide_eq_true (by first | (with_reducible assumption) | assumption); have q10 : (x4_1 : Int) < ((x3_1.length : Int) : Int) := of_decide_eq_true (by first | (with_reducible assumption) | assumption); obtain ⟨go10, co10, eo10, gb10, gl10, cl10, HG10⟩ := Kd.R_form HO_3.out (by omega); (first | cases eo10 | (injection eo10 with ea_ en_ ec_; (first | subst ea_ | (injection ea_ with ea_; subst ea_)); subst ec_; clear en_)); have GB10 := Aside0.mk gb10; have GG10 := Aside0.mk HG10; clear gb10 gl10 HG10; obtain ⟨ce10, hcl10, hM10, hcc10, hfr10⟩ := Kd.R_elem HO_3.out z119 (x4_1 : Int) p10 q10; obtain rfl := k119_openM hM10; have hx10_0 : w11.cell? ⟨go10, (x4_1 : Int).toNat * 6, none⟩ = some (.int .i64 ((rd_T119 x3_1 x4_1).f0)) := hcc10 0 _ rfl; have hx10_1 : w11.cell? ⟨go10, (x4_1 : Int).toNat * 6 + 1, none⟩ = some (.int .i64 ((rd_T119 x3_1 x4_1).f1)) := hcc10 1 _ rfl; have hx10_2 : w11.cell? ⟨go10, (x4_1 : Int).toNat * 6 + 2, none⟩ = some (.int .i64 ((rd_T119 x3_1 x4_1).f2)) := hcc10 2 _ rfl; have hx10_3 : w11.cell? ⟨go10, (x4_1 : Int).toNat * 6 + 3, none⟩ = some (.int .i64 ((rd_T119 x3_1 x4_1).f3)) := hcc10 3 _ rfl; have hx10_4 : w11.cell? ⟨go10, (x4_1 : Int).toNat * 6 + 4, none⟩ = some (.int .i64 ((rd_T119 x3_1 x4_1).f4)) := hcc10 4 _ rfl; have hx10_5 : w11.cell? ⟨go10, (x4_1 : Int).toNat * 6 + 5, none⟩ = some (.int .i64 ((rd_T119 x3_1 x4_1).f5)) := hcc10 5 _ rfl; have hf10_0 : w11.frozen? ⟨go10, (x4_1 : Int).toNat * 6, none⟩ = false := hfr10 0; have hf10_1 : w11.frozen? ⟨go10, (x4_1 : Int).toNat * 6 + 1, none⟩ = false := hfr10 1; have hf10_2 : w11.frozen? ⟨go10, (x4_1 : Int).toNat * 6 + 2, none⟩ = false := hfr10 2; have hf10_3 : w11.frozen? ⟨go10, (x4_1 : Int).toNat * 6 + 3, none⟩ = false := hfr10 3; have hf10_4 : w11.frozen? ⟨go10, (x4_1 : Int).toNat * 6 + 4, none⟩ = false := hfr10 4; have hf10_5 : w11.frozen? ⟨go10, (x4_1 : Int).toNat * 6 + 5, none⟩ = false := hfr10 5; clear hcl10 hcc10 hfr10 hM10; replace p10 := eq_true p10; replace q10 := eq_true q10; have HX12 := Aside0.mk (show Kd.R k119 119 w11 w.heap.size (fun _ => True) (.slice (some ⟨go10, 0, none⟩) x3_1.length co10) x3_1 from (rr HO_3.out)); obtain ⟨ce12, hcl12, hM12, hcc12, hfr12⟩ := Kd.R_elem HX12.out z119 (x4_1 : Int) (of_decide_eq_true (by first | (with_reducible assumption) | assumption)) (by have h_ : (x4_1 : Int) < ((x3_1.length : Int) : Int) := of_decide_eq_true (by first | (with_reducible assumption) | assumption); first | exact h_ | (have e_ := (Kd.R_reads' HO_3.out).1; omega) | simpa using h_); obtain rfl := k119_openM hM12; have HP12 := Kd.R_seg HX12.out (x4_1 : Int) (of_decide_eq_true (by first | (with_reducible assumption) | assumption)) (by have h_ : (x4_1 : Int) < ((x3_1.length : Int) : Int) := of_decide_eq_true (by first | (with_reducible assumption) | assumption); first | exact h_ | (have e_ := (Kd.R_reads' HO_3.out).1; omega) | simpa using h_) (seg := [.int .i64 t809, .int .i64 t810, .int .i64 t811, .int .i64 t812, .int .i64 t813, .int .i64 t814]) (j := 0) hcl12 hcc12 (show 6 ≤ 6 from by decide) (x' := (⟨t809, t810, t811, t812, t813, t814⟩ : S119)) (k119_mkM _ _ _ (⟨t809, t810, t811, t812, t813, t814⟩ : S119) ) (fun _ hk => hk); have hx12_0 := hcc12 0 _ rfl; (try simp only [show (k119).sz = 6 from rfl, Nat.mul_one, Nat.add_zero] at hx12_0); have hf12_0 := hfr12 0; (try simp only [show (k119).sz = 6 from rfl, Nat.mul_one, Nat.add_zero] at hf12_0); have hx12_1 := hcc12 1 _ rfl; (try simp only [show (k119).sz = 6 from rfl, Nat.mul_one, Nat.add_zero] at hx12_1); have hf12_1 := hfr12 1; (try simp only [show (k119).sz = 6 from rfl, Nat.mul_one, Nat.add_zero] at hf12_1); have hx12_2 := hcc12 2 _ rfl; (try simp only [show (k119).sz = 6 from rfl, Nat.mul_one, Nat.add_zero] at hx12_2); have hf12_2 := hfr12 2; (try simp only [show (k119).sz = 6 from rfl, Nat.mul_one, Nat.add_zero] at hf12_2); have hx12_3 := hcc12 3 _ rfl; (try simp only [show (k119).sz = 6 from rfl, Nat.mul_one, Nat.add_zero] at hx12_3); have hf12_3 := hfr12 3; (try simp only [show (k119).sz = 6 from rfl, Nat.mul_one, Nat.add_zero] at hf12_3); have hx12_4 := hcc12 4 _ rfl; (try simp only [show (k119).sz = 6 from rfl, Nat.mul_one, Nat.add_zero] at hx12_4); have hf12_4 := hfr12 4; (try simp only [show (k119).sz = 6 from rfl, Nat.mul_one, Nat.add_zero] at hf12_4); have hx12_5 := hcc12 5 _ rfl; (try simp only [show (k119).sz = 6 from rfl, Nat.mul_one, Nat.add_zero] at hx12_5); have hf12_5 := hfr12 5; (try simp only [show (k119).sz = 6 from rfl, Nat.mul_one, Nat.add_zero] at hf12_5); clear hcl12 hcc12 hfr12 hM12) | ((with_reducible refine gate_store (t := 119) (p := 21) rfl ?_); refine store_event (t := 119) (p := 21) (v := ?vo_w13) (w1 := ((((((w11.setCell ⟨go10, (x4_1 : Int).toNat * 6, none⟩ (.int .i64 t809)).setCell ⟨go10, (x4_1 : Int).toNat * 6 + 1, none⟩ (.int .i64 t810)).setCell ⟨go10, (x4_1 : Int).toNat * 6 + 2, none⟩ (.int .i64 t811)).setCell ⟨go10, (x4_1 : Int).toNat * 6 + 3, none⟩ (.int .i64 t812)).setCell ⟨go10, (x4_1 : Int).toNat * 6 + 4, none⟩ (.int .i64 t813)).setCell ⟨go10, (x4_1 : Int).toNat * 6 + 5, none⟩ (.int .i64 t814))) ?hg ?ho ?hn ?hr ?_; (case ho => rfl); (case hg => rfl); (case hn => rfl); (case hr => first | (go_simp; done) | (go_simp; rfl) | (obtain ⟨A_, c_, e_⟩ := Kd.R_slice HO_3.out; subst e_; first | (go_simp; done) | (go_simp; rfl))); intro w13 hw; have hg : w11.grownBy w13 (some go10) := (by rw [hw]; exact HP12.2); have hp_ : Kd.R k119 119 w13 w.heap.size (fun _ => True) (.slice (some ⟨go10, 0, none⟩) x3_1.length co10) y815 := (by rw [hw, Ny815.out]; exact HP12.1); clear HP12; have n0_ := Aside0.mk (hp_); have n1_ := Aside0.mk ((by rw [hw]; exact below_set (below_set (below_set (below_set (below_set (below_set (HB.out) GB10.out) GB10.out) GB10.out) GB10.out) GB10.out) GB10.out : Below w.heap.size w w13)); clear HO_3; clear HB; have HO_3 := n0_; have HB := n1_; clear n0_ n1_; clear hg hw hp_))
                go_roundg k1
                case measure => have := HK1.out; omega
                case rel => exact ⟨(y815), (wrap64 (x4_1 + 1)), (by first | rfl | (simp; done) | (simp [*]; done)), H', ⟨by have := HK1.out; omega⟩, ⟨rr HO_3.out⟩, ⟨bb HB.out⟩⟩
              · rw [if_neg c9] at H
                exact absurd H (by simp)
            · rw [if_neg c7] at H
              exact absurd H (by simp)
          · rw [if_neg c6] at H
            have c6b0 : decide (x4_1 < (l0.length : Int)) = false := decide_eq_false c6
            clear c6
            obtain rfl := Option.some.inj H
            go_wp2
            go_ret
            exact ⟨_, by first | rfl | (simp [errW_none, errW_some] <;> rfl) | (simp [*, errW_none, errW_some] <;> rfl), rr HO_3.out, bb HB.out⟩
    · rw [if_neg c3] at H
      exact absurd H (by simp)
  · rw [if_neg c2] at H
    exact absurd H (by simp)
def laws_toRequest.f (a0_0 : Int) (a0_1 : Int) (a0_2 : Int) (a0_3 : Int) (a0_4 : Int) (a0_5 : Int) : Option (Int × Int × Int × Int × Int × Int) := some (a0_0, a0_1, a0_2, a0_3, a0_4, a0_5)
set_option maxHeartbeats 8000000 in
set_option maxRecDepth 100000 in
theorem laws_toRequest.calls (a0_0 : Int) (a0_1 : Int) (a0_2 : Int) (a0_3 : Int) (a0_4 : Int) (a0_5 : Int) (r1 : Int) (r2 : Int) (r3 : Int) (r4 : Int) (r5 : Int) (r6 : Int) (w : World) (h : laws_toRequest.f a0_0 a0_1 a0_2 a0_3 a0_4 a0_5 = some (r1, r2, r3, r4, r5, r6)) :
    Calls Try.prog 70 #[.agg #[.int .i64 a0_0, .int .i64 a0_1, .int .i64 a0_2, .int .i64 a0_3, .int .i64 a0_4, .int .i64 a0_5]] w fun e w' => e = .returned (.agg #[.int .i64 r1, .int .i64 r2, .int .i64 r3, .int .i64 r4, .int .i64 r5, .int .i64 r6]) ∧ Below w.heap.size w w' := by
  have hu102 := Try.underlying102
  have hu111 := Try.underlying111
  have HB := Aside0.mk (Below.refl w.heap.size w)
  have H : (some (a0_0, a0_1, a0_2, a0_3, a0_4, a0_5)) = some (r1, r2, r3, r4, r5, r6) := h
  clear h
  simp only [Option.some.injEq, Prod.mk.injEq] at H
  obtain ⟨rfl, rfl, rfl, rfl, rfl, rfl⟩ := H
  go_enter Try.func70, Try.ntmps70
  go_wp2_with (first | ((with_reducible refine gate_dst (N := 1) rfl ?_); refine box_event ?hg (N := 1) ?hd (cs := #[.int .i64 a0_0, .int .i64 a0_1, .int .i64 a0_2, .int .i64 a0_3, .int .i64 a0_4, .int .i64 a0_5]) (t := 102) ?hr ?_; (case hd => rfl); (case hg => rfl); (case hr => first | (go_simp; done) | (go_simp; rfl)); intro gb816 hg w2 hbox hb; have n0_ := Aside0.mk (below_step (bb HB.out) hb); have n1_ := Aside0.mk (hbox); have n2_ := Aside0.mk ((by rw [hg]; exact (below_size (bb HB.out)) : w.heap.size ≤ gb816)); have n3_ := Aside0.mk ((by rw [hg]; exact (below_size (bb HB.out)) : w.heap.size ≤ gb816)); clear HB; have HB := n0_; have BK816 := n1_; have GW816 := n2_; have GE816 := n3_; clear n0_ n1_ n2_ n3_; clear hb hbox hg) | ((with_reducible refine gate_dst (N := 2) rfl ?_); refine box_event ?hg (N := 2) ?hd (cs := #[.int .i64 0, .int .i64 0, .int .i64 0, .int .i64 0, .int .i64 0, .int .i64 0]) (t := 111) ?hr ?_; (case hd => rfl); (case hg => rfl); (case hr => first | (go_simp; done) | (go_simp; rfl)); intro gb817 hg w3 hbox hb; have n0_ := Aside0.mk (blk_below (rb BK816.out) hb); have n1_ := Aside0.mk (below_step (bb HB.out) hb); have n2_ := Aside0.mk (hbox); have n3_ := Aside0.mk ((by rw [hg]; exact (below_size (bb HB.out)) : w.heap.size ≤ gb817)); have n4_ := Aside0.mk ((by rw [hg]; exact (below_size (bb HB.out)) : w.heap.size ≤ gb817)); have n5_ := Aside0.mk ((by rw [hg]; exact Nat.ne_of_lt (blk_lt (g := gb816) (o := .cells #[.int .i64 a0_0, .int .i64 a0_1, .int .i64 a0_2, .int .i64 a0_3, .int .i64 a0_4, .int .i64 a0_5] 102 (0, 0)) (rb BK816.out)) : gb816 ≠ gb817)); have n6_ := Aside0.mk ((by rw [hg]; exact Nat.ne_of_gt (blk_lt (g := gb816) (o := .cells #[.int .i64 a0_0, .int .i64 a0_1, .int .i64 a0_2, .int .i64 a0_3, .int .i64 a0_4, .int .i64 a0_5] 102 (0, 0)) (rb BK816.out)) : gb817 ≠ gb816)); clear BK816; clear HB; have BK816 := n0_; have HB := n1_; have BK817 := n2_; have GW817 := n3_; have GE817 := n4_; have NB816_817 := n5_; have NB817_816 := n6_; clear n0_ n1_ n2_ n3_ n4_ n5_ n6_; clear hb hbox hg) | ((with_reducible refine gate_dst (N := 3) rfl ?_); refine box_event ?hg (N := 3) ?hd (cs := #[.int .i64 0, .int .i64 0, .int .i64 0, .int .i64 0, .int .i64 0, .int .i64 0]) (t := 111) ?hr ?_; (case hd => rfl); (case hg => rfl); (case hr => first | (go_simp; done) | (go_simp; rfl)); intro gb818 hg w4 hbox hb; have n0_ := Aside0.mk (blk_below (rb BK816.out) hb); have n1_ := Aside0.mk (blk_below (rb BK817.out) hb); have n2_ := Aside0.mk (below_step (bb HB.out) hb); have n3_ := Aside0.mk (hbox); have n4_ := Aside0.mk ((by rw [hg]; exact (below_size (bb HB.out)) : w.heap.size ≤ gb818)); have n5_ := Aside0.mk ((by rw [hg]; exact (below_size (bb HB.out)) : w.heap.size ≤ gb818)); have n6_ := Aside0.mk ((by rw [hg]; exact Nat.ne_of_lt (blk_lt (g := gb816) (o := .cells #[.int .i64 a0_0, .int .i64 a0_1, .int .i64 a0_2, .int .i64 a0_3, .int .i64 a0_4, .int .i64 a0_5] 102 (0, 0)) (rb BK816.out)) : gb816 ≠ gb818)); have n7_ := Aside0.mk ((by rw [hg]; exact Nat.ne_of_gt (blk_lt (g := gb816) (o := .cells #[.int .i64 a0_0, .int .i64 a0_1, .int .i64 a0_2, .int .i64 a0_3, .int .i64 a0_4, .int .i64 a0_5] 102 (0, 0)) (rb BK816.out)) : gb818 ≠ gb816)); have n8_ := Aside0.mk ((by rw [hg]; exact Nat.ne_of_lt (blk_lt (g := gb817) (o := .cells #[.int .i64 0, .int .i64 0, .int .i64 0, .int .i64 0, .int .i64 0, .int .i64 0] 111 (0, 0)) (rb BK817.out)) : gb817 ≠ gb818)); have n9_ := Aside0.mk ((by rw [hg]; exact Nat.ne_of_gt (blk_lt (g := gb817) (o := .cells #[.int .i64 0, .int .i64 0, .int .i64 0, .int .i64 0, .int .i64 0, .int .i64 0] 111 (0, 0)) (rb BK817.out)) : gb818 ≠ gb817)); clear BK816; clear BK817; clear HB; have BK816 := n0_; have BK817 := n1_; have HB := n2_; have BK818 := n3_; have GW818 := n4_; have GE818 := n5_; have NB816_818 := n6_; have NB818_816 := n7_; have NB817_818 := n8_; have NB818_817 := n9_; clear n0_ n1_ n2_ n3_ n4_ n5_ n6_ n7_ n8_ n9_; clear hb hbox hg; have hnb5 := NB816_817.out; have hnc5 := NB817_816.out; have hnb6 := NB816_818.out; have hnc6 := NB818_816.out; have hcz7_0 := cz BK816.out 0 (.int .i64 a0_0); have hcz7_1 := cz BK816.out 1 (.int .i64 a0_1); have hcz7_2 := cz BK816.out 2 (.int .i64 a0_2); have hcz7_3 := cz BK816.out 3 (.int .i64 a0_3); have hcz7_4 := cz BK816.out 4 (.int .i64 a0_4); have hcz7_5 := cz BK816.out 5 (.int .i64 a0_5); have hfz7_0 := blk_frozen BK816.out 0; have hfz7_1 := blk_frozen BK816.out 1; have hfz7_2 := blk_frozen BK816.out 2; have hfz7_3 := blk_frozen BK816.out 3; have hfz7_4 := blk_frozen BK816.out 4; have hfz7_5 := blk_frozen BK816.out 5; have hnb8 := NB818_817.out; have hnc8 := NB817_818.out; have hcz9_0 := cz BK818.out 0 (.int .i64 0); have hcz9_1 := cz BK818.out 1 (.int .i64 0); have hcz9_2 := cz BK818.out 2 (.int .i64 0); have hcz9_3 := cz BK818.out 3 (.int .i64 0); have hcz9_4 := cz BK818.out 4 (.int .i64 0); have hcz9_5 := cz BK818.out 5 (.int .i64 0); have hfz9_0 := blk_frozen BK818.out 0; have hfz9_1 := blk_frozen BK818.out 1; have hfz9_2 := blk_frozen BK818.out 2; have hfz9_3 := blk_frozen BK818.out 3; have hfz9_4 := blk_frozen BK818.out 4; have hfz9_5 := blk_frozen BK818.out 5; have hcz10_0 := cz BK817.out 0 (.int .i64 0); have hcz10_1 := cz BK817.out 1 (.int .i64 0); have hcz10_2 := cz BK817.out 2 (.int .i64 0); have hcz10_3 := cz BK817.out 3 (.int .i64 0); have hcz10_4 := cz BK817.out 4 (.int .i64 0); have hcz10_5 := cz BK817.out 5 (.int .i64 0); have hfz10_0 := blk_frozen BK817.out 0; have hfz10_1 := blk_frozen BK817.out 1; have hfz10_2 := blk_frozen BK817.out 2; have hfz10_3 := blk_frozen BK817.out 3; have hfz10_4 := blk_frozen BK817.out 4; have hfz10_5 := blk_frozen BK817.out 5))
  refine bodyPost_ret (results_cell_row rfl _ _ gb817 111 #[.int .i64 a0_0, .int .i64 a0_1, .int .i64 a0_2, .int .i64 a0_3, .int .i64 a0_4, .int .i64 a0_5] (0, 0) _ rfl (by (with_reducible repeat (first | refine blk_drewN ?_ _ | refine blk_drew ?_ | refine blk_alloc ?_ _)); refine blk_put (cs := #[.int .i64 a0_0, .int .i64 a0_1, .int .i64 a0_2, .int .i64 a0_3, .int .i64 a0_4, .int .i64 0]) ?_ 5 _ rfl; (with_reducible repeat (first | refine blk_drewN ?_ _ | refine blk_drew ?_ | refine blk_alloc ?_ _)); refine blk_put (cs := #[.int .i64 a0_0, .int .i64 a0_1, .int .i64 a0_2, .int .i64 a0_3, .int .i64 0, .int .i64 0]) ?_ 4 _ rfl; (with_reducible repeat (first | refine blk_drewN ?_ _ | refine blk_drew ?_ | refine blk_alloc ?_ _)); refine blk_put (cs := #[.int .i64 a0_0, .int .i64 a0_1, .int .i64 a0_2, .int .i64 0, .int .i64 0, .int .i64 0]) ?_ 3 _ rfl; (with_reducible repeat (first | refine blk_drewN ?_ _ | refine blk_drew ?_ | refine blk_alloc ?_ _)); refine blk_put (cs := #[.int .i64 a0_0, .int .i64 a0_1, .int .i64 0, .int .i64 0, .int .i64 0, .int .i64 0]) ?_ 2 _ rfl; (with_reducible repeat (first | refine blk_drewN ?_ _ | refine blk_drew ?_ | refine blk_alloc ?_ _)); refine blk_put (cs := #[.int .i64 a0_0, .int .i64 0, .int .i64 0, .int .i64 0, .int .i64 0, .int .i64 0]) ?_ 1 _ rfl; (with_reducible repeat (first | refine blk_drewN ?_ _ | refine blk_drew ?_ | refine blk_alloc ?_ _)); refine blk_put (cs := #[.int .i64 0, .int .i64 0, .int .i64 0, .int .i64 0, .int .i64 0, .int .i64 0]) ?_ 0 _ rfl; (with_reducible repeat (first | refine blk_drewN ?_ _ | refine blk_drew ?_ | refine blk_alloc ?_ _)); refine blk_far ?_ NB817_818.out _; (with_reducible repeat (first | refine blk_drewN ?_ _ | refine blk_drew ?_ | refine blk_alloc ?_ _)); refine blk_far ?_ NB817_818.out _; (with_reducible repeat (first | refine blk_drewN ?_ _ | refine blk_drew ?_ | refine blk_alloc ?_ _)); refine blk_far ?_ NB817_818.out _; (with_reducible repeat (first | refine blk_drewN ?_ _ | refine blk_drew ?_ | refine blk_alloc ?_ _)); refine blk_far ?_ NB817_818.out _; (with_reducible repeat (first | refine blk_drewN ?_ _ | refine blk_drew ?_ | refine blk_alloc ?_ _)); refine blk_far ?_ NB817_818.out _; (with_reducible repeat (first | refine blk_drewN ?_ _ | refine blk_drew ?_ | refine blk_alloc ?_ _)); refine blk_far ?_ NB817_818.out _; (with_reducible repeat (first | refine blk_drewN ?_ _ | refine blk_drew ?_ | refine blk_alloc ?_ _)); exact BK817.out) Try.underlying111 rfl (by kernel_rfl)) rfl ?_
  exact ⟨by first | rfl | (simp [errW_none, errW_some] <;> rfl) | (simp [*, errW_none, errW_some] <;> rfl), bb HB.out⟩
def slices_Index_int_int.l0 : Nat → List Int → Int → Int → Int → Option (Int)
  | 0, _, _, _, _ => none
  | k + 1, x0, x1, x7, x8 => if x8 < x7 then (if 0 ≤ x8 then (if x8 < (x0.length : Int) then (if x1 = (rd x0 x8) then (some x8) else (slices_Index_int_int.l0 k x0 x1 x7 (wrap64 (x8 + 1)))) else (none)) else (none)) else (some (-1))
def slices_Index_int_int.f (k : Nat) (l0 : List Int) (a1 : Int) : Option (Int) := slices_Index_int_int.l0 k l0 a1 (l0.length : Int) 0
set_option maxHeartbeats 8000000 in
set_option maxRecDepth 100000 in
theorem slices_Index_int_int.calls (k : Nat) (A0 : Option Addr) (c0 : Nat) (l0 : List Int) (a1 : Int) (r : Int) (w : World) (hr0 : Kd.C (Kd.int .i64) w A0 l0.length l0) (hc0 : l0.length ≤ c0) (h : slices_Index_int_int.f k l0 a1 = some r) :
    Calls Try.prog 252 #[.slice A0 l0.length c0, .int .i64 a1] w fun e w' => e = .returned (.int .i64 r) ∧ Drawn0 w w' := by
  have HR0 := Aside0.mk hr0
  have HC0 := Aside0.mk hc0
  clear hr0 hc0
  have H : (slices_Index_int_int.l0 k l0 a1 (l0.length : Int) 0) = some r := h
  clear h
  have H' := Aside0.mk H
  clear H
  go_enter Try.func252, Try.ntmps252
  go_wp2
  go_loopg [8] k (fun kq v8 w' => ∃ (x8_1 : Int), v8 = .int .i64 x8_1 ∧ Aside0 (slices_Index_int_int.l0 kq l0 a1 (l0.length : Int) x8_1 = some r) ∧ Aside0 (kq ≤ k) ∧ Drawn0 w w')
  case atStart => exact ⟨(0), (by first | rfl | (simp; done) | (simp [*]; done)), H', ⟨Nat.le_refl _⟩, by repeat (first | exact Drawn0.refl _ | apply Drawn0.step)⟩
  case round =>
    clear H'
    try clear c2
    try clear p2
    obtain ⟨x8_1, rfl, HA, HK1, ⟨m1, rfl⟩⟩ := hrel
    cases gk with
    | zero => exact absurd HA.out (by simp [slices_Index_int_int.l0])
    | succ k1 =>
      have H := HA.out
      clear HA
      simp only [slices_Index_int_int.l0] at H
      by_cases c3 : x8_1 < (l0.length : Int)
      · rw [if_pos c3] at H
        have c3b0 : decide (x8_1 < (l0.length : Int)) = true := decide_eq_true c3
        clear c3
        by_cases c4 : 0 ≤ x8_1
        · rw [if_pos c4] at H
          have c4b0 : decide (0 ≤ x8_1) = true := decide_eq_true c4
          clear c4
          by_cases c5 : x8_1 < (l0.length : Int)
          · rw [if_pos c5] at H
            have c5b0 : decide (x8_1 < (l0.length : Int)) = true := decide_eq_true c5
            clear c5
            by_cases c6 : a1 = (rd l0 x8_1)
            · rw [if_pos c6] at H
              have c6b0 : (a1 == (rd l0 x8_1)) = true := beq_iff_eq.mpr c6
              have c6b1 : (a1 != (rd l0 x8_1)) = false := bne_eq_false_iff_eq.mpr c6
              clear c6
              obtain rfl := Option.some.inj H
              have p819 : 0 ≤ (x8_1 : Int) := of_decide_eq_true (by first | (with_reducible assumption) | assumption)
              have q819 : x8_1 < (l0.length : Int) := of_decide_eq_true (by first | (with_reducible assumption) | assumption)
              obtain ⟨ad819, e819, hx819_0⟩ := Kd.at_int HR0.out x8_1 p819 q819
              cases e819
              replace p819 := eq_true p819
              replace q819 := eq_true q819
              go_wp2
              go_ret
              exact ⟨by first | rfl | (simp; done) | (simp [*]; done), by repeat (first | exact Drawn0.refl _ | apply Drawn0.step)⟩
            · rw [if_neg c6] at H
              have c6b0 : (a1 == (rd l0 x8_1)) = false := beq_eq_false_iff_ne.mpr c6
              have c6b1 : (a1 != (rd l0 x8_1)) = true := bne_iff_ne.mpr c6
              have H' := Aside0.mk H
              clear H
              have p819 : 0 ≤ (x8_1 : Int) := of_decide_eq_true (by first | (with_reducible assumption) | assumption)
              have q819 : x8_1 < (l0.length : Int) := of_decide_eq_true (by first | (with_reducible assumption) | assumption)
              obtain ⟨ad819, e819, hx819_0⟩ := Kd.at_int HR0.out x8_1 p819 q819
              cases e819
              replace p819 := eq_true p819
              replace q819 := eq_true q819
              go_wp2
              go_roundg k1
              case measure => have := HK1.out; omega
              case rel => exact ⟨(wrap64 (x8_1 + 1)), (by first | rfl | (simp; done) | (simp [*]; done)), H', ⟨by have := HK1.out; omega⟩, by repeat (first | exact Drawn0.refl _ | apply Drawn0.step)⟩
          · rw [if_neg c5] at H
            exact absurd H (by simp)
        · rw [if_neg c4] at H
          exact absurd H (by simp)
      · rw [if_neg c3] at H
        have c3b0 : decide (x8_1 < (l0.length : Int)) = false := decide_eq_false c3
        clear c3
        obtain rfl := Option.some.inj H
        go_wp2
        go_ret
        exact ⟨by first | rfl | (simp; done) | (simp [*]; done), by repeat (first | exact Drawn0.refl _ | apply Drawn0.step)⟩
def slices_Contains_int_int.f (k : Nat) (l0 : List Int) (a1 : Int) : Option (Bool) := (slices_Index_int_int.f k l0 a1).bind fun t820 => (some (decide (t820 ≥ 0)))
set_option maxHeartbeats 8000000 in
set_option maxRecDepth 100000 in
theorem slices_Contains_int_int.calls (k : Nat) (A0 : Option Addr) (c0 : Nat) (l0 : List Int) (a1 : Int) (r : Bool) (w : World) (hr0 : Kd.C (Kd.int .i64) w A0 l0.length l0) (hc0 : l0.length ≤ c0) (h : slices_Contains_int_int.f k l0 a1 = some r) :
    Calls Try.prog 205 #[.slice A0 l0.length c0, .int .i64 a1] w fun e w' => e = .returned (.bool r) ∧ Drawn0 w w' := by
  have HR0 := Aside0.mk hr0
  have HC0 := Aside0.mk hc0
  clear hr0 hc0
  have H : ((slices_Index_int_int.f k l0 a1).bind fun t820 => (some (decide (t820 ≥ 0)))) = some r := h
  clear h
  replace H := Option.bind_eq_some_iff.mp H
  obtain ⟨t820, A30, H⟩ := H
  replace H : (some (decide (t820 ≥ 0))) = some r := H
  have A3 := Aside0.mk A30
  clear A30
  obtain rfl := Option.some.inj H
  go_enter Try.func205, Try.ntmps205
  go_wp2_with (first | ((with_reducible refine gate_callee (f := 252) rfl ?_); refine gm (some 7) Try.func252 #[.slice A0 l0.length c0, .int .i64 a1] ?_; (with_reducible refine (slices_Index_int_int.calls k _ _ l0 a1 t820 _ ?side1 ?side2 A3.out).mono ?_); (case side1 => repeat (first | exact HR0.out | (with_reducible refine Kd.C_alloc ?_ _) | (with_reducible refine Kd.C_drewN ?_ _) | (with_reducible refine Kd.C_drew ?_))); (case side2 => exact HC0.out); rintro e w' ⟨rfl, ⟨nd, rfl⟩⟩; refine ⟨_, rfl, ?_⟩))
  go_ret
  exact ⟨by first | rfl | (simp; done) | (simp [*]; done), by repeat (first | exact Drawn0.refl _ | apply Drawn0.step)⟩
def impl_IsName.f (a0 : Int) : Option (Bool) := (impl_InRange.f a0 10 49).bind fun t821 => (some t821)
set_option maxHeartbeats 8000000 in
set_option maxRecDepth 100000 in
theorem impl_IsName.calls (a0 : Int) (r : Bool) (w : World) (h : impl_IsName.f a0 = some r) :
    Calls Try.prog 273 #[.int .i64 a0] w fun e w' => e = .returned (.bool r) ∧ Drawn0 w w' := by
  have H : ((impl_InRange.f a0 10 49).bind fun t821 => (some t821)) = some r := h
  clear h
  replace H := Option.bind_eq_some_iff.mp H
  obtain ⟨t821, A20, H⟩ := H
  replace H : (some t821) = some r := H
  have A2 := Aside0.mk A20
  clear A20
  obtain rfl := Option.some.inj H
  go_enter Try.func273, Try.ntmps273
  go_wp2_with (first | ((with_reducible refine gate_callee (f := 85) rfl ?_); refine gm (some 4) Try.func85 #[.int .i64 a0, .int .i64 10, .int .i64 49] ?_; (with_reducible refine (impl_InRange.calls a0 10 49 t821 _ A2.out).mono ?_); rintro e w' ⟨rfl, ⟨nd, rfl⟩⟩; refine ⟨_, rfl, ?_⟩))
  go_ret
  exact ⟨by first | rfl | (simp; done) | (simp [*]; done), by repeat (first | exact Drawn0.refl _ | apply Drawn0.step)⟩
def impl_KindOf.f (a0 : Int) : Option (Int) := (impl_IsName.f a0).bind fun t822 => (if t822 = true then (some (wrap64 (Int.tdiv a0 10))) else (some 0))
set_option maxHeartbeats 8000000 in
set_option maxRecDepth 100000 in
theorem impl_KindOf.calls (a0 : Int) (r : Int) (w : World) (h : impl_KindOf.f a0 = some r) :
    Calls Try.prog 274 #[.int .i64 a0] w fun e w' => e = .returned (.int .i64 r) ∧ Drawn0 w w' := by
  have H : ((impl_IsName.f a0).bind fun t822 => (if t822 = true then (some (wrap64 (Int.tdiv a0 10))) else (some 0))) = some r := h
  clear h
  replace H := Option.bind_eq_some_iff.mp H
  obtain ⟨t822, A20, H⟩ := H
  replace H : (if t822 = true then (some (wrap64 (Int.tdiv a0 10))) else (some 0)) = some r := H
  have A2 := Aside0.mk A20
  clear A20
  by_cases c3 : t822 = true
  · subst c3
    have H1 : (some (wrap64 (Int.tdiv a0 10))) = some r := by rw [if_pos rfl] at H; exact H
    clear H
    have H := H1
    clear H1
    obtain rfl := Option.some.inj H
    go_enter Try.func274, Try.ntmps274
    go_wp2_with (first | ((with_reducible refine gate_callee (f := 273) rfl ?_); refine gm (some 4) Try.func273 #[.int .i64 a0] ?_; (with_reducible refine (impl_IsName.calls a0 true _ A2.out).mono ?_); rintro e w' ⟨rfl, ⟨nd, rfl⟩⟩; refine ⟨_, rfl, ?_⟩))
    go_ret
    exact ⟨by first | rfl | (simp; done) | (simp [*]; done), by repeat (first | exact Drawn0.refl _ | apply Drawn0.step)⟩
  · replace c3 := Bool.eq_false_iff.mpr c3
    subst c3
    have H1 : (some 0) = some r := by rw [if_neg (show ¬ (false = true) by decide)] at H; exact H
    clear H
    have H := H1
    clear H1
    obtain rfl := Option.some.inj H
    go_enter Try.func274, Try.ntmps274
    go_wp2_with (first | ((with_reducible refine gate_callee (f := 273) rfl ?_); refine gm (some 4) Try.func273 #[.int .i64 a0] ?_; (with_reducible refine (impl_IsName.calls a0 false _ A2.out).mono ?_); rintro e w' ⟨rfl, ⟨nd, rfl⟩⟩; refine ⟨_, rfl, ?_⟩))
    go_ret
    exact ⟨by first | rfl | (simp; done) | (simp [*]; done), by repeat (first | exact Drawn0.refl _ | apply Drawn0.step)⟩
def impl_HasKind.f (a0 : Int) (a1 : Int) : Option (Bool) := (impl_IsName.f a0).bind fun t823 => (if t823 = true then ((impl_KindOf.f a0).bind fun t824 => (some (t824 == a1))) else (some false))
set_option maxHeartbeats 8000000 in
set_option maxRecDepth 100000 in
theorem impl_HasKind.calls (a0 : Int) (a1 : Int) (r : Bool) (w : World) (h : impl_HasKind.f a0 a1 = some r) :
    Calls Try.prog 242 #[.int .i64 a0, .int .i64 a1] w fun e w' => e = .returned (.bool r) ∧ Drawn0 w w' := by
  have H : ((impl_IsName.f a0).bind fun t823 => (if t823 = true then ((impl_KindOf.f a0).bind fun t824 => (some (t824 == a1))) else (some false))) = some r := h
  clear h
  replace H := Option.bind_eq_some_iff.mp H
  obtain ⟨t823, A30, H⟩ := H
  replace H : (if t823 = true then ((impl_KindOf.f a0).bind fun t824 => (some (t824 == a1))) else (some false)) = some r := H
  have A3 := Aside0.mk A30
  clear A30
  by_cases c4 : t823 = true
  · subst c4
    have H1 : ((impl_KindOf.f a0).bind fun t824 => (some (t824 == a1))) = some r := by rw [if_pos rfl] at H; exact H
    clear H
    have H := H1
    clear H1
    replace H := Option.bind_eq_some_iff.mp H
    obtain ⟨t824, A50, H⟩ := H
    replace H : (some (t824 == a1)) = some r := H
    have A5 := Aside0.mk A50
    clear A50
    obtain rfl := Option.some.inj H
    go_enter Try.func242, Try.ntmps242
    go_wp2_with (first | ((with_reducible refine gate_callee (f := 273) rfl ?_); refine gm (some 6) Try.func273 #[.int .i64 a0] ?_; (with_reducible refine (impl_IsName.calls a0 true _ A3.out).mono ?_); rintro e w' ⟨rfl, ⟨nd, rfl⟩⟩; refine ⟨_, rfl, ?_⟩) | (go_at_call 274; (with_reducible refine (impl_KindOf.calls a0 t824 _ A5.out).mono ?_); rintro e w' ⟨rfl, ⟨nd, rfl⟩⟩))
    go_ret
    exact ⟨by first | rfl | (simp; done) | (simp [*]; done), by repeat (first | exact Drawn0.refl _ | apply Drawn0.step)⟩
  · replace c4 := Bool.eq_false_iff.mpr c4
    subst c4
    have H1 : (some false) = some r := by rw [if_neg (show ¬ (false = true) by decide)] at H; exact H
    clear H
    have H := H1
    clear H1
    obtain rfl := Option.some.inj H
    go_enter Try.func242, Try.ntmps242
    go_wp2_with (first | ((with_reducible refine gate_callee (f := 273) rfl ?_); refine gm (some 6) Try.func273 #[.int .i64 a0] ?_; (with_reducible refine (impl_IsName.calls a0 false _ A3.out).mono ?_); rintro e w' ⟨rfl, ⟨nd, rfl⟩⟩; refine ⟨_, rfl, ?_⟩))
    go_ret
    exact ⟨by first | rfl | (simp; done) | (simp [*]; done), by repeat (first | exact Drawn0.refl _ | apply Drawn0.step)⟩
end Go.Proofs.Ytbfochojhmggfaa.R
end
section
namespace Go.Proofs.Ytbfochojhmggfaa.R
open Go.RowKit Go.Proofs.YtbfochojhmggfaaW.PrintWords Go.Proofs.YtbfochojhmggfaaW.PrintLast Go.Proofs.YtbfochojhmggfaaW.PrintMore
attribute [local go_sem] max2_int min2_int max_two min_two max_three min_three max_four min_four
set_option linter.unusedVariables false
set_option linter.unusedSimpArgs false
def impl_isClaim.f (a0_0 : Int) (a0_1 : Int) (a0_2 : Int) (a0_3 : Int) (a0_4 : Int) (a0_5 : Int) : Option (Bool) := if a0_0 = 1 then ((impl_HasKind.f a0_1 1).bind fun t826 => (if t826 = true then ((impl_InRange.f a0_2 0 5).bind fun t827 => (some t827)) else (some false))) else (if a0_0 = 2 then ((impl_HasKind.f a0_1 1).bind fun t828 => (if t828 = true then ((impl_HasKind.f a0_2 2).bind fun t829 => (some t829)) else (some false))) else (if a0_0 = 3 then ((impl_HasKind.f a0_1 2).bind fun t830 => (if t830 = true then ((impl_InRange.f a0_2 0 3).bind fun t831 => (some t831)) else (some false))) else (if a0_0 = 4 then ((impl_HasKind.f a0_1 3).bind fun t832 => (if t832 = true then ((impl_InRange.f a0_2 0 3).bind fun t833 => (some t833)) else (some false))) else (some false))))
set_option maxHeartbeats 8000000 in
set_option maxRecDepth 100000 in
theorem impl_isClaim.calls (a0_0 : Int) (a0_1 : Int) (a0_2 : Int) (a0_3 : Int) (a0_4 : Int) (a0_5 : Int) (r : Bool) (w : World) (h : impl_isClaim.f a0_0 a0_1 a0_2 a0_3 a0_4 a0_5 = some r) :
    Calls Try.prog 216 #[.agg #[.int .i64 a0_0, .int .i64 a0_1, .int .i64 a0_2, .int .i64 a0_3, .int .i64 a0_4, .int .i64 a0_5]] w fun e w' => e = .returned (.bool r) ∧ Below w.heap.size w w' := by
  have hu119 := Try.underlying119
  have HB := Aside0.mk (Below.refl w.heap.size w)
  have H : (if a0_0 = 1 then ((impl_HasKind.f a0_1 1).bind fun t826 => (if t826 = true then ((impl_InRange.f a0_2 0 5).bind fun t827 => (some t827)) else (some false))) else (if a0_0 = 2 then ((impl_HasKind.f a0_1 1).bind fun t828 => (if t828 = true then ((impl_HasKind.f a0_2 2).bind fun t829 => (some t829)) else (some false))) else (if a0_0 = 3 then ((impl_HasKind.f a0_1 2).bind fun t830 => (if t830 = true then ((impl_InRange.f a0_2 0 3).bind fun t831 => (some t831)) else (some false))) else (if a0_0 = 4 then ((impl_HasKind.f a0_1 3).bind fun t832 => (if t832 = true then ((impl_InRange.f a0_2 0 3).bind fun t833 => (some t833)) else (some false))) else (some false))))) = some r := h
  clear h
  by_cases c2 : a0_0 = 1
  · rw [if_pos c2] at H
    have c2b0 : (a0_0 == 1) = true := beq_iff_eq.mpr c2
    have c2b1 : (a0_0 != 1) = false := bne_eq_false_iff_eq.mpr c2
    clear c2
    replace H := Option.bind_eq_some_iff.mp H
    obtain ⟨t826, A30, H⟩ := H
    replace H : (if t826 = true then ((impl_InRange.f a0_2 0 5).bind fun t827 => (some t827)) else (some false)) = some r := H
    have A3 := Aside0.mk A30
    clear A30
    by_cases c4 : t826 = true
    · subst c4
      have H1 : ((impl_InRange.f a0_2 0 5).bind fun t827 => (some t827)) = some r := by rw [if_pos rfl] at H; exact H
      clear H
      have H := H1
      clear H1
      replace H := Option.bind_eq_some_iff.mp H
      obtain ⟨t827, A50, H⟩ := H
      replace H : (some t827) = some r := H
      have A5 := Aside0.mk A50
      clear A50
      obtain rfl := Option.some.inj H
      go_enter Try.func216, Try.ntmps216
      go_wp2_with (first | ((with_reducible refine gate_dst (N := 1) rfl ?_); refine box_event ?hg (N := 1) ?hd (cs := #[.int .i64 a0_0, .int .i64 a0_1, .int .i64 a0_2, .int .i64 a0_3, .int .i64 a0_4, .int .i64 a0_5]) (t := 119) ?hr ?_; (case hd => rfl); (case hg => rfl); (case hr => first | (go_simp; done) | (go_simp; rfl)); intro gb825 hg w6 hbox hb; have n0_ := Aside0.mk (below_step (bb HB.out) hb); have n1_ := Aside0.mk (hbox); have n2_ := Aside0.mk ((by rw [hg]; exact (below_size (bb HB.out)) : w.heap.size ≤ gb825)); have n3_ := Aside0.mk ((by rw [hg]; exact (below_size (bb HB.out)) : w.heap.size ≤ gb825)); clear HB; have HB := n0_; have BK825 := n1_; have GW825 := n2_; have GE825 := n3_; clear n0_ n1_ n2_ n3_; clear hb hbox hg; have hcz7_0 := cz BK825.out 0 (.int .i64 a0_0); have hcz7_1 := cz BK825.out 1 (.int .i64 a0_1); have hcz7_2 := cz BK825.out 2 (.int .i64 a0_2); have hcz7_3 := cz BK825.out 3 (.int .i64 a0_3); have hcz7_4 := cz BK825.out 4 (.int .i64 a0_4); have hcz7_5 := cz BK825.out 5 (.int .i64 a0_5); have hfz7_0 := blk_frozen BK825.out 0; have hfz7_1 := blk_frozen BK825.out 1; have hfz7_2 := blk_frozen BK825.out 2; have hfz7_3 := blk_frozen BK825.out 3; have hfz7_4 := blk_frozen BK825.out 4; have hfz7_5 := blk_frozen BK825.out 5) | ((with_reducible refine gate_callee (f := 242) rfl ?_); refine gm (some 9) Try.func242 #[.int .i64 a0_1, .int .i64 1] ?_; (with_reducible refine (impl_HasKind.calls a0_1 1 true _ A3.out).mono ?_); rintro e w' ⟨rfl, ⟨nd, rfl⟩⟩; refine ⟨_, rfl, ?_⟩) | (go_at_call 85; (with_reducible refine (impl_InRange.calls a0_2 0 5 t827 _ A5.out).mono ?_); rintro e w' ⟨rfl, ⟨nd, rfl⟩⟩))
      go_ret
      exact ⟨by first | rfl | (simp [errW_none, errW_some] <;> rfl) | (simp [*, errW_none, errW_some] <;> rfl), bb HB.out⟩
    · replace c4 := Bool.eq_false_iff.mpr c4
      subst c4
      have H1 : (some false) = some r := by rw [if_neg (show ¬ (false = true) by decide)] at H; exact H
      clear H
      have H := H1
      clear H1
      obtain rfl := Option.some.inj H
      go_enter Try.func216, Try.ntmps216
      go_wp2_with (first | ((with_reducible refine gate_dst (N := 1) rfl ?_); refine box_event ?hg (N := 1) ?hd (cs := #[.int .i64 a0_0, .int .i64 a0_1, .int .i64 a0_2, .int .i64 a0_3, .int .i64 a0_4, .int .i64 a0_5]) (t := 119) ?hr ?_; (case hd => rfl); (case hg => rfl); (case hr => first | (go_simp; done) | (go_simp; rfl)); intro gb825 hg w8 hbox hb; have n0_ := Aside0.mk (below_step (bb HB.out) hb); have n1_ := Aside0.mk (hbox); have n2_ := Aside0.mk ((by rw [hg]; exact (below_size (bb HB.out)) : w.heap.size ≤ gb825)); have n3_ := Aside0.mk ((by rw [hg]; exact (below_size (bb HB.out)) : w.heap.size ≤ gb825)); clear HB; have HB := n0_; have BK825 := n1_; have GW825 := n2_; have GE825 := n3_; clear n0_ n1_ n2_ n3_; clear hb hbox hg; have hcz9_0 := cz BK825.out 0 (.int .i64 a0_0); have hcz9_1 := cz BK825.out 1 (.int .i64 a0_1); have hcz9_2 := cz BK825.out 2 (.int .i64 a0_2); have hcz9_3 := cz BK825.out 3 (.int .i64 a0_3); have hcz9_4 := cz BK825.out 4 (.int .i64 a0_4); have hcz9_5 := cz BK825.out 5 (.int .i64 a0_5); have hfz9_0 := blk_frozen BK825.out 0; have hfz9_1 := blk_frozen BK825.out 1; have hfz9_2 := blk_frozen BK825.out 2; have hfz9_3 := blk_frozen BK825.out 3; have hfz9_4 := blk_frozen BK825.out 4; have hfz9_5 := blk_frozen BK825.out 5) | ((with_reducible refine gate_callee (f := 242) rfl ?_); refine gm (some 9) Try.func242 #[.int .i64 a0_1, .int .i64 1] ?_; (with_reducible refine (impl_HasKind.calls a0_1 1 false _ A3.out).mono ?_); rintro e w' ⟨rfl, ⟨nd, rfl⟩⟩; refine ⟨_, rfl, ?_⟩))
      go_ret
      exact ⟨by first | rfl | (simp [errW_none, errW_some] <;> rfl) | (simp [*, errW_none, errW_some] <;> rfl), bb HB.out⟩
  · rw [if_neg c2] at H
    have c2b0 : (a0_0 == 1) = false := beq_eq_false_iff_ne.mpr c2
    have c2b1 : (a0_0 != 1) = true := bne_iff_ne.mpr c2
    by_cases c10 : a0_0 = 2
    · rw [if_pos c10] at H
      have c10b0 : (a0_0 == 2) = true := beq_iff_eq.mpr c10
      have c10b1 : (a0_0 != 2) = false := bne_eq_false_iff_eq.mpr c10
      clear c10
      replace H := Option.bind_eq_some_iff.mp H
      obtain ⟨t828, A110, H⟩ := H
      replace H : (if t828 = true then ((impl_HasKind.f a0_2 2).bind fun t829 => (some t829)) else (some false)) = some r := H
      have A11 := Aside0.mk A110
      clear A110
      by_cases c12 : t828 = true
      · subst c12
        have H1 : ((impl_HasKind.f a0_2 2).bind fun t829 => (some t829)) = some r := by rw [if_pos rfl] at H; exact H
        clear H
        have H := H1
        clear H1
        replace H := Option.bind_eq_some_iff.mp H
        obtain ⟨t829, A130, H⟩ := H
        replace H : (some t829) = some r := H
        have A13 := Aside0.mk A130
        clear A130
        obtain rfl := Option.some.inj H
        go_enter Try.func216, Try.ntmps216
        go_wp2_with (first | ((with_reducible refine gate_dst (N := 1) rfl ?_); refine box_event ?hg (N := 1) ?hd (cs := #[.int .i64 a0_0, .int .i64 a0_1, .int .i64 a0_2, .int .i64 a0_3, .int .i64 a0_4, .int .i64 a0_5]) (t := 119) ?hr ?_; (case hd => rfl); (case hg => rfl); (case hr => first | (go_simp; done) | (go_simp; rfl)); intro gb825 hg w14 hbox hb; have n0_ := Aside0.mk (below_step (bb HB.out) hb); have n1_ := Aside0.mk (hbox); have n2_ := Aside0.mk ((by rw [hg]; exact (below_size (bb HB.out)) : w.heap.size ≤ gb825)); have n3_ := Aside0.mk ((by rw [hg]; exact (below_size (bb HB.out)) : w.heap.size ≤ gb825)); clear HB; have HB := n0_; have BK825 := n1_; have GW825 := n2_; have GE825 := n3_; clear n0_ n1_ n2_ n3_; clear hb hbox hg; have hcz15_0 := cz BK825.out 0 (.int .i64 a0_0); have hcz15_1 := cz BK825.out 1 (.int .i64 a0_1); have hcz15_2 := cz BK825.out 2 (.int .i64 a0_2); have hcz15_3 := cz BK825.out 3 (.int .i64 a0_3); have hcz15_4 := cz BK825.out 4 (.int .i64 a0_4); have hcz15_5 := cz BK825.out 5 (.int .i64 a0_5); have hfz15_0 := blk_frozen BK825.out 0; have hfz15_1 := blk_frozen BK825.out 1; have hfz15_2 := blk_frozen BK825.out 2; have hfz15_3 := blk_frozen BK825.out 3; have hfz15_4 := blk_frozen BK825.out 4; have hfz15_5 := blk_frozen BK825.out 5) | ((with_reducible refine gate_callee (f := 242) rfl ?_); refine gm (some 19) Try.func242 #[.int .i64 a0_1, .int .i64 1] ?_; (with_reducible refine (impl_HasKind.calls a0_1 1 true _ A11.out).mono ?_); rintro e w' ⟨rfl, ⟨nd, rfl⟩⟩; refine ⟨_, rfl, ?_⟩) | (go_at_call 242; (with_reducible refine (impl_HasKind.calls a0_2 2 t829 _ A13.out).mono ?_); rintro e w' ⟨rfl, ⟨nd, rfl⟩⟩))
        go_ret
        exact ⟨by first | rfl | (simp [errW_none, errW_some] <;> rfl) | (simp [*, errW_none, errW_some] <;> rfl), bb HB.out⟩
      · replace c12 := Bool.eq_false_iff.mpr c12
        subst c12
        have H1 : (some false) = some r := by rw [if_neg (show ¬ (false = true) by decide)] at H; exact H
        clear H
        have H := H1
        clear H1
        obtain rfl := Option.some.inj H
        go_enter Try.func216, Try.ntmps216
        go_wp2_with (first | ((with_reducible refine gate_dst (N := 1) rfl ?_); refine box_event ?hg (N := 1) ?hd (cs := #[.int .i64 a0_0, .int .i64 a0_1, .int .i64 a0_2, .int .i64 a0_3, .int .i64 a0_4, .int .i64 a0_5]) (t := 119) ?hr ?_; (case hd => rfl); (case hg => rfl); (case hr => first | (go_simp; done) | (go_simp; rfl)); intro gb825 hg w16 hbox hb; have n0_ := Aside0.mk (below_step (bb HB.out) hb); have n1_ := Aside0.mk (hbox); have n2_ := Aside0.mk ((by rw [hg]; exact (below_size (bb HB.out)) : w.heap.size ≤ gb825)); have n3_ := Aside0.mk ((by rw [hg]; exact (below_size (bb HB.out)) : w.heap.size ≤ gb825)); clear HB; have HB := n0_; have BK825 := n1_; have GW825 := n2_; have GE825 := n3_; clear n0_ n1_ n2_ n3_; clear hb hbox hg; have hcz17_0 := cz BK825.out 0 (.int .i64 a0_0); have hcz17_1 := cz BK825.out 1 (.int .i64 a0_1); have hcz17_2 := cz BK825.out 2 (.int .i64 a0_2); have hcz17_3 := cz BK825.out 3 (.int .i64 a0_3); have hcz17_4 := cz BK825.out 4 (.int .i64 a0_4); have hcz17_5 := cz BK825.out 5 (.int .i64 a0_5); have hfz17_0 := blk_frozen BK825.out 0; have hfz17_1 := blk_frozen BK825.out 1; have hfz17_2 := blk_frozen BK825.out 2; have hfz17_3 := blk_frozen BK825.out 3; have hfz17_4 := blk_frozen BK825.out 4; have hfz17_5 := blk_frozen BK825.out 5) | ((with_reducible refine gate_callee (f := 242) rfl ?_); refine gm (some 19) Try.func242 #[.int .i64 a0_1, .int .i64 1] ?_; (with_reducible refine (impl_HasKind.calls a0_1 1 false _ A11.out).mono ?_); rintro e w' ⟨rfl, ⟨nd, rfl⟩⟩; refine ⟨_, rfl, ?_⟩))
        go_ret
        exact ⟨by first | rfl | (simp [errW_none, errW_some] <;> rfl) | (simp [*, errW_none, errW_some] <;> rfl), bb HB.out⟩
    · rw [if_neg c10] at H
      have c10b0 : (a0_0 == 2) = false := beq_eq_false_iff_ne.mpr c10
      have c10b1 : (a0_0 != 2) = true := bne_iff_ne.mpr c10
      by_cases c18 : a0_0 = 3
      · rw [if_pos c18] at H
        have c18b0 : (a0_0 == 3) = true := beq_iff_eq.mpr c18
        have c18b1 : (a0_0 != 3) = false := bne_eq_false_iff_eq.mpr c18
        clear c18
        replace H := Option.bind_eq_some_iff.mp H
        obtain ⟨t830, A190, H⟩ := H
        replace H : (if t830 = true then ((impl_InRange.f a0_2 0 3).bind fun t831 => (some t831)) else (some false)) = some r := H
        have A19 := Aside0.mk A190
        clear A190
        by_cases c20 : t830 = true
        · subst c20
          have H1 : ((impl_InRange.f a0_2 0 3).bind fun t831 => (some t831)) = some r := by rw [if_pos rfl] at H; exact H
          clear H
          have H := H1
          clear H1
          replace H := Option.bind_eq_some_iff.mp H
          obtain ⟨t831, A210, H⟩ := H
          replace H : (some t831) = some r := H
          have A21 := Aside0.mk A210
          clear A210
          obtain rfl := Option.some.inj H
          go_enter Try.func216, Try.ntmps216
          go_wp2_with (first | ((with_reducible refine gate_dst (N := 1) rfl ?_); refine box_event ?hg (N := 1) ?hd (cs := #[.int .i64 a0_0, .int .i64 a0_1, .int .i64 a0_2, .int .i64 a0_3, .int .i64 a0_4, .int .i64 a0_5]) (t := 119) ?hr ?_; (case hd => rfl); (case hg => rfl); (case hr => first | (go_simp; done) | (go_simp; rfl)); intro gb825 hg w22 hbox hb; have n0_ := Aside0.mk (below_step (bb HB.out) hb); have n1_ := Aside0.mk (hbox); have n2_ := Aside0.mk ((by rw [hg]; exact (below_size (bb HB.out)) : w.heap.size ≤ gb825)); have n3_ := Aside0.mk ((by rw [hg]; exact (below_size (bb HB.out)) : w.heap.size ≤ gb825)); clear HB; have HB := n0_; have BK825 := n1_; have GW825 := n2_; have GE825 := n3_; clear n0_ n1_ n2_ n3_; clear hb hbox hg; have hcz23_0 := cz BK825.out 0 (.int .i64 a0_0); have hcz23_1 := cz BK825.out 1 (.int .i64 a0_1); have hcz23_2 := cz BK825.out 2 (.int .i64 a0_2); have hcz23_3 := cz BK825.out 3 (.int .i64 a0_3); have hcz23_4 := cz BK825.out 4 (.int .i64 a0_4); have hcz23_5 := cz BK825.out 5 (.int .i64 a0_5); have hfz23_0 := blk_frozen BK825.out 0; have hfz23_1 := blk_frozen BK825.out 1; have hfz23_2 := blk_frozen BK825.out 2; have hfz23_3 := blk_frozen BK825.out 3; have hfz23_4 := blk_frozen BK825.out 4; have hfz23_5 := blk_frozen BK825.out 5) | ((with_reducible refine gate_callee (f := 242) rfl ?_); refine gm (some 29) Try.func242 #[.int .i64 a0_1, .int .i64 2] ?_; (with_reducible refine (impl_HasKind.calls a0_1 2 true _ A19.out).mono ?_); rintro e w' ⟨rfl, ⟨nd, rfl⟩⟩; refine ⟨_, rfl, ?_⟩) | (go_at_call 85; (with_reducible refine (impl_InRange.calls a0_2 0 3 t831 _ A21.out).mono ?_); rintro e w' ⟨rfl, ⟨nd, rfl⟩⟩))
          go_ret
          exact ⟨by first | rfl | (simp [errW_none, errW_some] <;> rfl) | (simp [*, errW_none, errW_some] <;> rfl), bb HB.out⟩
        · replace c20 := Bool.eq_false_iff.mpr c20
          subst c20
          have H1 : (some false) = some r := by rw [if_neg (show ¬ (false = true) by decide)] at H; exact H
          clear H
          have H := H1
          clear H1
          obtain rfl := Option.some.inj H
          go_enter Try.func216, Try.ntmps216
          go_wp2_with (first | ((with_reducible refine gate_dst (N := 1) rfl ?_); refine box_event ?hg (N := 1) ?hd (cs := #[.int .i64 a0_0, .int .i64 a0_1, .int .i64 a0_2, .int .i64 a0_3, .int .i64 a0_4, .int .i64 a0_5]) (t := 119) ?hr ?_; (case hd => rfl); (case hg => rfl); (case hr => first | (go_simp; done) | (go_simp; rfl)); intro gb825 hg w24 hbox hb; have n0_ := Aside0.mk (below_step (bb HB.out) hb); have n1_ := Aside0.mk (hbox); have n2_ := Aside0.mk ((by rw [hg]; exact (below_size (bb HB.out)) : w.heap.size ≤ gb825)); have n3_ := Aside0.mk ((by rw [hg]; exact (below_size (bb HB.out)) : w.heap.size ≤ gb825)); clear HB; have HB := n0_; have BK825 := n1_; have GW825 := n2_; have GE825 := n3_; clear n0_ n1_ n2_ n3_; clear hb hbox hg; have hcz25_0 := cz BK825.out 0 (.int .i64 a0_0); have hcz25_1 := cz BK825.out 1 (.int .i64 a0_1); have hcz25_2 := cz BK825.out 2 (.int .i64 a0_2); have hcz25_3 := cz BK825.out 3 (.int .i64 a0_3); have hcz25_4 := cz BK825.out 4 (.int .i64 a0_4); have hcz25_5 := cz BK825.out 5 (.int .i64 a0_5); have hfz25_0 := blk_frozen BK825.out 0; have hfz25_1 := blk_frozen BK825.out 1; have hfz25_2 := blk_frozen BK825.out 2; have hfz25_3 := blk_frozen BK825.out 3; have hfz25_4 := blk_frozen BK825.out 4; have hfz25_5 := blk_frozen BK825.out 5) | ((with_reducible refine gate_callee (f := 242) rfl ?_); refine gm (some 29) Try.func242 #[.int .i64 a0_1, .int .i64 2] ?_; (with_reducible refine (impl_HasKind.calls a0_1 2 false _ A19.out).mono ?_); rintro e w' ⟨rfl, ⟨nd, rfl⟩⟩; refine ⟨_, rfl, ?_⟩))
          go_ret
          exact ⟨by first | rfl | (simp [errW_none, errW_some] <;> rfl) | (simp [*, errW_none, errW_some] <;> rfl), bb HB.out⟩
      · rw [if_neg c18] at H
        have c18b0 : (a0_0 == 3) = false := beq_eq_false_iff_ne.mpr c18
        have c18b1 : (a0_0 != 3) = true := bne_iff_ne.mpr c18
        by_cases c26 : a0_0 = 4
        · rw [if_pos c26] at H
          have c26b0 : (a0_0 == 4) = true := beq_iff_eq.mpr c26
          have c26b1 : (a0_0 != 4) = false := bne_eq_false_iff_eq.mpr c26
          clear c26
          replace H := Option.bind_eq_some_iff.mp H
          obtain ⟨t832, A270, H⟩ := H
          replace H : (if t832 = true then ((impl_InRange.f a0_2 0 3).bind fun t833 => (some t833)) else (some false)) = some r := H
          have A27 := Aside0.mk A270
          clear A270
          by_cases c28 : t832 = true
          · subst c28
            have H1 : ((impl_InRange.f a0_2 0 3).bind fun t833 => (some t833)) = some r := by rw [if_pos rfl] at H; exact H
            clear H
            have H := H1
            clear H1
            replace H := Option.bind_eq_some_iff.mp H
            obtain ⟨t833, A290, H⟩ := H
            replace H : (some t833) = some r := H
            have A29 := Aside0.mk A290
            clear A290
            obtain rfl := Option.some.inj H
            go_enter Try.func216, Try.ntmps216
            go_wp2_with (first | ((with_reducible refine gate_dst (N := 1) rfl ?_); refine box_event ?hg (N := 1) ?hd (cs := #[.int .i64 a0_0, .int .i64 a0_1, .int .i64 a0_2, .int .i64 a0_3, .int .i64 a0_4, .int .i64 a0_5]) (t := 119) ?hr ?_; (case hd => rfl); (case hg => rfl); (case hr => first | (go_simp; done) | (go_simp; rfl)); intro gb825 hg w30 hbox hb; have n0_ := Aside0.mk (below_step (bb HB.out) hb); have n1_ := Aside0.mk (hbox); have n2_ := Aside0.mk ((by rw [hg]; exact (below_size (bb HB.out)) : w.heap.size ≤ gb825)); have n3_ := Aside0.mk ((by rw [hg]; exact (below_size (bb HB.out)) : w.heap.size ≤ gb825)); clear HB; have HB := n0_; have BK825 := n1_; have GW825 := n2_; have GE825 := n3_; clear n0_ n1_ n2_ n3_; clear hb hbox hg; have hcz31_0 := cz BK825.out 0 (.int .i64 a0_0); have hcz31_1 := cz BK825.out 1 (.int .i64 a0_1); have hcz31_2 := cz BK825.out 2 (.int .i64 a0_2); have hcz31_3 := cz BK825.out 3 (.int .i64 a0_3); have hcz31_4 := cz BK825.out 4 (.int .i64 a0_4); have hcz31_5 := cz BK825.out 5 (.int .i64 a0_5); have hfz31_0 := blk_frozen BK825.out 0; have hfz31_1 := blk_frozen BK825.out 1; have hfz31_2 := blk_frozen BK825.out 2; have hfz31_3 := blk_frozen BK825.out 3; have hfz31_4 := blk_frozen BK825.out 4; have hfz31_5 := blk_frozen BK825.out 5) | ((with_reducible refine gate_callee (f := 242) rfl ?_); refine gm (some 39) Try.func242 #[.int .i64 a0_1, .int .i64 3] ?_; (with_reducible refine (impl_HasKind.calls a0_1 3 true _ A27.out).mono ?_); rintro e w' ⟨rfl, ⟨nd, rfl⟩⟩; refine ⟨_, rfl, ?_⟩) | (go_at_call 85; (with_reducible refine (impl_InRange.calls a0_2 0 3 t833 _ A29.out).mono ?_); rintro e w' ⟨rfl, ⟨nd, rfl⟩⟩))
            go_ret
            exact ⟨by first | rfl | (simp [errW_none, errW_some] <;> rfl) | (simp [*, errW_none, errW_some] <;> rfl), bb HB.out⟩
          · replace c28 := Bool.eq_false_iff.mpr c28
            subst c28
            have H1 : (some false) = some r := by rw [if_neg (show ¬ (false = true) by decide)] at H; exact H
            clear H
            have H := H1
            clear H1
            obtain rfl := Option.some.inj H
            go_enter Try.func216, Try.ntmps216
            go_wp2_with (first | ((with_reducible refine gate_dst (N := 1) rfl ?_); refine box_event ?hg (N := 1) ?hd (cs := #[.int .i64 a0_0, .int .i64 a0_1, .int .i64 a0_2, .int .i64 a0_3, .int .i64 a0_4, .int .i64 a0_5]) (t := 119) ?hr ?_; (case hd => rfl); (case hg => rfl); (case hr => first | (go_simp; done) | (go_simp; rfl)); intro gb825 hg w32 hbox hb; have n0_ := Aside0.mk (below_step (bb HB.out) hb); have n1_ := Aside0.mk (hbox); have n2_ := Aside0.mk ((by rw [hg]; exact (below_size (bb HB.out)) : w.heap.size ≤ gb825)); have n3_ := Aside0.mk ((by rw [hg]; exact (below_size (bb HB.out)) : w.heap.size ≤ gb825)); clear HB; have HB := n0_; have BK825 := n1_; have GW825 := n2_; have GE825 := n3_; clear n0_ n1_ n2_ n3_; clear hb hbox hg; have hcz33_0 := cz BK825.out 0 (.int .i64 a0_0); have hcz33_1 := cz BK825.out 1 (.int .i64 a0_1); have hcz33_2 := cz BK825.out 2 (.int .i64 a0_2); have hcz33_3 := cz BK825.out 3 (.int .i64 a0_3); have hcz33_4 := cz BK825.out 4 (.int .i64 a0_4); have hcz33_5 := cz BK825.out 5 (.int .i64 a0_5); have hfz33_0 := blk_frozen BK825.out 0; have hfz33_1 := blk_frozen BK825.out 1; have hfz33_2 := blk_frozen BK825.out 2; have hfz33_3 := blk_frozen BK825.out 3; have hfz33_4 := blk_frozen BK825.out 4; have hfz33_5 := blk_frozen BK825.out 5) | ((with_reducible refine gate_callee (f := 242) rfl ?_); refine gm (some 39) Try.func242 #[.int .i64 a0_1, .int .i64 3] ?_; (with_reducible refine (impl_HasKind.calls a0_1 3 false _ A27.out).mono ?_); rintro e w' ⟨rfl, ⟨nd, rfl⟩⟩; refine ⟨_, rfl, ?_⟩))
            go_ret
            exact ⟨by first | rfl | (simp [errW_none, errW_some] <;> rfl) | (simp [*, errW_none, errW_some] <;> rfl), bb HB.out⟩
        · rw [if_neg c26] at H
          have c26b0 : (a0_0 == 4) = false := beq_eq_false_iff_ne.mpr c26
          have c26b1 : (a0_0 != 4) = true := bne_iff_ne.mpr c26
          obtain rfl := Option.some.inj H
          go_enter Try.func216, Try.ntmps216
          go_wp2_with (first | ((with_reducible refine gate_dst (N := 1) rfl ?_); refine box_event ?hg (N := 1) ?hd (cs := #[.int .i64 a0_0, .int .i64 a0_1, .int .i64 a0_2, .int .i64 a0_3, .int .i64 a0_4, .int .i64 a0_5]) (t := 119) ?hr ?_; (case hd => rfl); (case hg => rfl); (case hr => first | (go_simp; done) | (go_simp; rfl)); intro gb825 hg w34 hbox hb; have n0_ := Aside0.mk (below_step (bb HB.out) hb); have n1_ := Aside0.mk (hbox); have n2_ := Aside0.mk ((by rw [hg]; exact (below_size (bb HB.out)) : w.heap.size ≤ gb825)); have n3_ := Aside0.mk ((by rw [hg]; exact (below_size (bb HB.out)) : w.heap.size ≤ gb825)); clear HB; have HB := n0_; have BK825 := n1_; have GW825 := n2_; have GE825 := n3_; clear n0_ n1_ n2_ n3_; clear hb hbox hg; have hcz35_0 := cz BK825.out 0 (.int .i64 a0_0); have hcz35_1 := cz BK825.out 1 (.int .i64 a0_1); have hcz35_2 := cz BK825.out 2 (.int .i64 a0_2); have hcz35_3 := cz BK825.out 3 (.int .i64 a0_3); have hcz35_4 := cz BK825.out 4 (.int .i64 a0_4); have hcz35_5 := cz BK825.out 5 (.int .i64 a0_5); have hfz35_0 := blk_frozen BK825.out 0; have hfz35_1 := blk_frozen BK825.out 1; have hfz35_2 := blk_frozen BK825.out 2; have hfz35_3 := blk_frozen BK825.out 3; have hfz35_4 := blk_frozen BK825.out 4; have hfz35_5 := blk_frozen BK825.out 5))
          go_ret
          exact ⟨by first | rfl | (simp [errW_none, errW_some] <;> rfl) | (simp [*, errW_none, errW_some] <;> rfl), bb HB.out⟩
def impl_IsTime.f (a0 : Int) : Option (Bool) := (impl_InRange.f a0 0 10000).bind fun t834 => (some t834)
set_option maxHeartbeats 8000000 in
set_option maxRecDepth 100000 in
theorem impl_IsTime.calls (a0 : Int) (r : Bool) (w : World) (h : impl_IsTime.f a0 = some r) :
    Calls Try.prog 217 #[.int .i64 a0] w fun e w' => e = .returned (.bool r) ∧ Drawn0 w w' := by
  have H : ((impl_InRange.f a0 0 10000).bind fun t834 => (some t834)) = some r := h
  clear h
  replace H := Option.bind_eq_some_iff.mp H
  obtain ⟨t834, A20, H⟩ := H
  replace H : (some t834) = some r := H
  have A2 := Aside0.mk A20
  clear A20
  obtain rfl := Option.some.inj H
  go_enter Try.func217, Try.ntmps217
  go_wp2_with (first | ((with_reducible refine gate_callee (f := 85) rfl ?_); refine gm (some 4) Try.func85 #[.int .i64 a0, .int .i64 0, .int .i64 10000] ?_; (with_reducible refine (impl_InRange.calls a0 0 10000 t834 _ A2.out).mono ?_); rintro e w' ⟨rfl, ⟨nd, rfl⟩⟩; refine ⟨_, rfl, ?_⟩))
  go_ret
  exact ⟨by first | rfl | (simp; done) | (simp [*]; done), by repeat (first | exact Drawn0.refl _ | apply Drawn0.step)⟩
def impl_IsFact.f (a0_0 : Int) (a0_1 : Int) (a0_2 : Int) (a0_3 : Int) (a0_4 : Int) (a0_5 : Int) : Option (Bool) := (impl_isClaim.f a0_0 a0_1 a0_2 a0_3 a0_4 a0_5).bind fun t836 => (if t836 = true then ((impl_InRange.f a0_3 0 9).bind fun t837 => (if t837 = true then ((impl_IsTime.f a0_4).bind fun t838 => (if t838 = true then ((impl_IsTime.f a0_5).bind fun t839 => (if t839 = true then (some (decide (a0_4 ≤ a0_5))) else (some false))) else (some false))) else (some false))) else (some false))
set_option maxHeartbeats 8000000 in
set_option maxRecDepth 100000 in
theorem impl_IsFact.calls (a0_0 : Int) (a0_1 : Int) (a0_2 : Int) (a0_3 : Int) (a0_4 : Int) (a0_5 : Int) (r : Bool) (w : World) (h : impl_IsFact.f a0_0 a0_1 a0_2 a0_3 a0_4 a0_5 = some r) :
    Calls Try.prog 160 #[.agg #[.int .i64 a0_0, .int .i64 a0_1, .int .i64 a0_2, .int .i64 a0_3, .int .i64 a0_4, .int .i64 a0_5]] w fun e w' => e = .returned (.bool r) ∧ Below w.heap.size w w' := by
  have hu119 := Try.underlying119
  have HB := Aside0.mk (Below.refl w.heap.size w)
  have H : ((impl_isClaim.f a0_0 a0_1 a0_2 a0_3 a0_4 a0_5).bind fun t836 => (if t836 = true then ((impl_InRange.f a0_3 0 9).bind fun t837 => (if t837 = true then ((impl_IsTime.f a0_4).bind fun t838 => (if t838 = true then ((impl_IsTime.f a0_5).bind fun t839 => (if t839 = true then (some (decide (a0_4 ≤ a0_5))) else (some false))) else (some false))) else (some false))) else (some false))) = some r := h
  clear h
  replace H := Option.bind_eq_some_iff.mp H
  obtain ⟨t836, A20, H⟩ := H
  replace H : (if t836 = true then ((impl_InRange.f a0_3 0 9).bind fun t837 => (if t837 = true then ((impl_IsTime.f a0_4).bind fun t838 => (if t838 = true then ((impl_IsTime.f a0_5).bind fun t839 => (if t839 = true then (some (decide (a0_4 ≤ a0_5))) else (some false))) else (some false))) else (some false))) else (some false)) = some r := H
  have A2 := Aside0.mk A20
  clear A20
  by_cases c3 : t836 = true
  · subst c3
    have H1 : ((impl_InRange.f a0_3 0 9).bind fun t837 => (if t837 = true then ((impl_IsTime.f a0_4).bind fun t838 => (if t838 = true then ((impl_IsTime.f a0_5).bind fun t839 => (if t839 = true then (some (decide (a0_4 ≤ a0_5))) else (some false))) else (some false))) else (some false))) = some r := by rw [if_pos rfl] at H; exact H
    clear H
    have H := H1
    clear H1
    replace H := Option.bind_eq_some_iff.mp H
    obtain ⟨t837, A40, H⟩ := H
    replace H : (if t837 = true then ((impl_IsTime.f a0_4).bind fun t838 => (if t838 = true then ((impl_IsTime.f a0_5).bind fun t839 => (if t839 = true then (some (decide (a0_4 ≤ a0_5))) else (some false))) else (some false))) else (some false)) = some r := H
    have A4 := Aside0.mk A40
    clear A40
    by_cases c5 : t837 = true
    · subst c5
      have H1 : ((impl_IsTime.f a0_4).bind fun t838 => (if t838 = true then ((impl_IsTime.f a0_5).bind fun t839 => (if t839 = true then (some (decide (a0_4 ≤ a0_5))) else (some false))) else (some false))) = some r := by rw [if_pos rfl] at H; exact H
      clear H
      have H := H1
      clear H1
      replace H := Option.bind_eq_some_iff.mp H
      obtain ⟨t838, A60, H⟩ := H
      replace H : (if t838 = true then ((impl_IsTime.f a0_5).bind fun t839 => (if t839 = true then (some (decide (a0_4 ≤ a0_5))) else (some false))) else (some false)) = some r := H
      have A6 := Aside0.mk A60
      clear A60
      by_cases c7 : t838 = true
      · subst c7
        have H1 : ((impl_IsTime.f a0_5).bind fun t839 => (if t839 = true then (some (decide (a0_4 ≤ a0_5))) else (some false))) = some r := by rw [if_pos rfl] at H; exact H
        clear H
        have H := H1
        clear H1
        replace H := Option.bind_eq_some_iff.mp H
        obtain ⟨t839, A80, H⟩ := H
        replace H : (if t839 = true then (some (decide (a0_4 ≤ a0_5))) else (some false)) = some r := H
        have A8 := Aside0.mk A80
        clear A80
        by_cases c9 : t839 = true
        · subst c9
          have H1 : (some (decide (a0_4 ≤ a0_5))) = some r := by rw [if_pos rfl] at H; exact H
          clear H
          have H := H1
          clear H1
          obtain rfl := Option.some.inj H
          go_enter Try.func160, Try.ntmps160
          go_wp2_with (first | ((with_reducible refine gate_dst (N := 1) rfl ?_); refine box_event ?hg (N := 1) ?hd (cs := #[.int .i64 a0_0, .int .i64 a0_1, .int .i64 a0_2, .int .i64 a0_3, .int .i64 a0_4, .int .i64 a0_5]) (t := 119) ?hr ?_; (case hd => rfl); (case hg => rfl); (case hr => first | (go_simp; done) | (go_simp; rfl)); intro gb835 hg w10 hbox hb; have n0_ := Aside0.mk (below_step (bb HB.out) hb); have n1_ := Aside0.mk (hbox); have n2_ := Aside0.mk ((by rw [hg]; exact (below_size (bb HB.out)) : w.heap.size ≤ gb835)); have n3_ := Aside0.mk ((by rw [hg]; exact (below_size (bb HB.out)) : w.heap.size ≤ gb835)); clear HB; have HB := n0_; have BK835 := n1_; have GW835 := n2_; have GE835 := n3_; clear n0_ n1_ n2_ n3_; clear hb hbox hg; have hcz11_0 := cz BK835.out 0 (.int .i64 a0_0); have hcz11_1 := cz BK835.out 1 (.int .i64 a0_1); have hcz11_2 := cz BK835.out 2 (.int .i64 a0_2); have hcz11_3 := cz BK835.out 3 (.int .i64 a0_3); have hcz11_4 := cz BK835.out 4 (.int .i64 a0_4); have hcz11_5 := cz BK835.out 5 (.int .i64 a0_5); have hfz11_0 := blk_frozen BK835.out 0; have hfz11_1 := blk_frozen BK835.out 1; have hfz11_2 := blk_frozen BK835.out 2; have hfz11_3 := blk_frozen BK835.out 3; have hfz11_4 := blk_frozen BK835.out 4; have hfz11_5 := blk_frozen BK835.out 5) | ((with_reducible refine gate_callee (f := 216) rfl ?_); refine gm (some 4) Try.func216 #[.agg #[.int .i64 a0_0, .int .i64 a0_1, .int .i64 a0_2, .int .i64 a0_3, .int .i64 a0_4, .int .i64 a0_5]] ?_; (with_reducible refine (impl_isClaim.calls a0_0 a0_1 a0_2 a0_3 a0_4 a0_5 true _ A2.out).mono ?_); rintro e w12 ⟨rfl, hb⟩; refine ⟨_, rfl, ?_⟩; have n0_ := Aside0.mk (blk_below (rb BK835.out) hb); have n1_ := Aside0.mk (below_step (bb HB.out) hb); clear BK835; clear HB; have BK835 := n0_; have HB := n1_; clear n0_ n1_; (try clear hb); (try clear hb2); (try clear hk); (try clear hi); have hcz13_0 := cz BK835.out 0 (.int .i64 a0_0); have hcz13_1 := cz BK835.out 1 (.int .i64 a0_1); have hcz13_2 := cz BK835.out 2 (.int .i64 a0_2); have hcz13_3 := cz BK835.out 3 (.int .i64 a0_3); have hcz13_4 := cz BK835.out 4 (.int .i64 a0_4); have hcz13_5 := cz BK835.out 5 (.int .i64 a0_5); have hfz13_0 := blk_frozen BK835.out 0; have hfz13_1 := blk_frozen BK835.out 1; have hfz13_2 := blk_frozen BK835.out 2; have hfz13_3 := blk_frozen BK835.out 3; have hfz13_4 := blk_frozen BK835.out 4; have hfz13_5 := blk_frozen BK835.out 5) | (go_at_call 85; (with_reducible refine (impl_InRange.calls a0_3 0 9 true _ A4.out).mono ?_); rintro e w' ⟨rfl, ⟨nd, rfl⟩⟩) | (go_at_call 217; (with_reducible refine (impl_IsTime.calls a0_4 true _ A6.out).mono ?_); rintro e w' ⟨rfl, ⟨nd, rfl⟩⟩) | (go_at_call 217; (with_reducible refine (impl_IsTime.calls a0_5 true _ A8.out).mono ?_); rintro e w' ⟨rfl, ⟨nd, rfl⟩⟩))
          go_ret
          exact ⟨by first | rfl | (simp [errW_none, errW_some] <;> rfl) | (simp [*, errW_none, errW_some] <;> rfl), bb HB.out⟩
        · replace c9 := Bool.eq_false_iff.mpr c9
          subst c9
          have H1 : (some false) = some r := by rw [if_neg (show ¬ (false = true) by decide)] at H; exact H
          clear H
          have H := H1
          clear H1
          obtain rfl := Option.some.inj H
          go_enter Try.func160, Try.ntmps160
          go_wp2_with (first | ((with_reducible refine gate_dst (N := 1) rfl ?_); refine box_event ?hg (N := 1) ?hd (cs := #[.int .i64 a0_0, .int .i64 a0_1, .int .i64 a0_2, .int .i64 a0_3, .int .i64 a0_4, .int .i64 a0_5]) (t := 119) ?hr ?_; (case hd => rfl); (case hg => rfl); (case hr => first | (go_simp; done) | (go_simp; rfl)); intro gb835 hg w14 hbox hb; have n0_ := Aside0.mk (below_step (bb HB.out) hb); have n1_ := Aside0.mk (hbox); have n2_ := Aside0.mk ((by rw [hg]; exact (below_size (bb HB.out)) : w.heap.size ≤ gb835)); have n3_ := Aside0.mk ((by rw [hg]; exact (below_size (bb HB.out)) : w.heap.size ≤ gb835)); clear HB; have HB := n0_; have BK835 := n1_; have GW835 := n2_; have GE835 := n3_; clear n0_ n1_ n2_ n3_; clear hb hbox hg; have hcz15_0 := cz BK835.out 0 (.int .i64 a0_0); have hcz15_1 := cz BK835.out 1 (.int .i64 a0_1); have hcz15_2 := cz BK835.out 2 (.int .i64 a0_2); have hcz15_3 := cz BK835.out 3 (.int .i64 a0_3); have hcz15_4 := cz BK835.out 4 (.int .i64 a0_4); have hcz15_5 := cz BK835.out 5 (.int .i64 a0_5); have hfz15_0 := blk_frozen BK835.out 0; have hfz15_1 := blk_frozen BK835.out 1; have hfz15_2 := blk_frozen BK835.out 2; have hfz15_3 := blk_frozen BK835.out 3; have hfz15_4 := blk_frozen BK835.out 4; have hfz15_5 := blk_frozen BK835.out 5) | ((with_reducible refine gate_callee (f := 216) rfl ?_); refine gm (some 4) Try.func216 #[.agg #[.int .i64 a0_0, .int .i64 a0_1, .int .i64 a0_2, .int .i64 a0_3, .int .i64 a0_4, .int .i64 a0_5]] ?_; (with_reducible refine (impl_isClaim.calls a0_0 a0_1 a0_2 a0_3 a0_4 a0_5 true _ A2.out).mono ?_); rintro e w16 ⟨rfl, hb⟩; refine ⟨_, rfl, ?_⟩; have n0_ := Aside0.mk (blk_below (rb BK835.out) hb); have n1_ := Aside0.mk (below_step (bb HB.out) hb); clear BK835; clear HB; have BK835 := n0_; have HB := n1_; clear n0_ n1_; (try clear hb); (try clear hb2); (try clear hk); (try clear hi); have hcz17_0 := cz BK835.out 0 (.int .i64 a0_0); have hcz17_1 := cz BK835.out 1 (.int .i64 a0_1); have hcz17_2 := cz BK835.out 2 (.int .i64 a0_2); have hcz17_3 := cz BK835.out 3 (.int .i64 a0_3); have hcz17_4 := cz BK835.out 4 (.int .i64 a0_4); have hcz17_5 := cz BK835.out 5 (.int .i64 a0_5); have hfz17_0 := blk_frozen BK835.out 0; have hfz17_1 := blk_frozen BK835.out 1; have hfz17_2 := blk_frozen BK835.out 2; have hfz17_3 := blk_frozen BK835.out 3; have hfz17_4 := blk_frozen BK835.out 4; have hfz17_5 := blk_frozen BK835.out 5) | (go_at_call 85; (with_reducible refine (impl_InRange.calls a0_3 0 9 true _ A4.out).mono ?_); rintro e w' ⟨rfl, ⟨nd, rfl⟩⟩) | (go_at_call 217; (with_reducible refine (impl_IsTime.calls a0_4 true _ A6.out).mono ?_); rintro e w' ⟨rfl, ⟨nd, rfl⟩⟩) | (go_at_call 217; (with_reducible refine (impl_IsTime.calls a0_5 false _ A8.out).mono ?_); rintro e w' ⟨rfl, ⟨nd, rfl⟩⟩))
          go_ret
          exact ⟨by first | rfl | (simp [errW_none, errW_some] <;> rfl) | (simp [*, errW_none, errW_some] <;> rfl), bb HB.out⟩
      · replace c7 := Bool.eq_false_iff.mpr c7
        subst c7
        have H1 : (some false) = some r := by rw [if_neg (show ¬ (false = true) by decide)] at H; exact H
        clear H
        have H := H1
        clear H1
        obtain rfl := Option.some.inj H
        go_enter Try.func160, Try.ntmps160
        go_wp2_with (first | ((with_reducible refine gate_dst (N := 1) rfl ?_); refine box_event ?hg (N := 1) ?hd (cs := #[.int .i64 a0_0, .int .i64 a0_1, .int .i64 a0_2, .int .i64 a0_3, .int .i64 a0_4, .int .i64 a0_5]) (t := 119) ?hr ?_; (case hd => rfl); (case hg => rfl); (case hr => first | (go_simp; done) | (go_simp; rfl)); intro gb835 hg w18 hbox hb; have n0_ := Aside0.mk (below_step (bb HB.out) hb); have n1_ := Aside0.mk (hbox); have n2_ := Aside0.mk ((by rw [hg]; exact (below_size (bb HB.out)) : w.heap.size ≤ gb835)); have n3_ := Aside0.mk ((by rw [hg]; exact (below_size (bb HB.out)) : w.heap.size ≤ gb835)); clear HB; have HB := n0_; have BK835 := n1_; have GW835 := n2_; have GE835 := n3_; clear n0_ n1_ n2_ n3_; clear hb hbox hg; have hcz19_0 := cz BK835.out 0 (.int .i64 a0_0); have hcz19_1 := cz BK835.out 1 (.int .i64 a0_1); have hcz19_2 := cz BK835.out 2 (.int .i64 a0_2); have hcz19_3 := cz BK835.out 3 (.int .i64 a0_3); have hcz19_4 := cz BK835.out 4 (.int .i64 a0_4); have hcz19_5 := cz BK835.out 5 (.int .i64 a0_5); have hfz19_0 := blk_frozen BK835.out 0; have hfz19_1 := blk_frozen BK835.out 1; have hfz19_2 := blk_frozen BK835.out 2; have hfz19_3 := blk_frozen BK835.out 3; have hfz19_4 := blk_frozen BK835.out 4; have hfz19_5 := blk_frozen BK835.out 5) | ((with_reducible refine gate_callee (f := 216) rfl ?_); refine gm (some 4) Try.func216 #[.agg #[.int .i64 a0_0, .int .i64 a0_1, .int .i64 a0_2, .int .i64 a0_3, .int .i64 a0_4, .int .i64 a0_5]] ?_; (with_reducible refine (impl_isClaim.calls a0_0 a0_1 a0_2 a0_3 a0_4 a0_5 true _ A2.out).mono ?_); rintro e w20 ⟨rfl, hb⟩; refine ⟨_, rfl, ?_⟩; have n0_ := Aside0.mk (blk_below (rb BK835.out) hb); have n1_ := Aside0.mk (below_step (bb HB.out) hb); clear BK835; clear HB; have BK835 := n0_; have HB := n1_; clear n0_ n1_; (try clear hb); (try clear hb2); (try clear hk); (try clear hi); have hcz21_0 := cz BK835.out 0 (.int .i64 a0_0); have hcz21_1 := cz BK835.out 1 (.int .i64 a0_1); have hcz21_2 := cz BK835.out 2 (.int .i64 a0_2); have hcz21_3 := cz BK835.out 3 (.int .i64 a0_3); have hcz21_4 := cz BK835.out 4 (.int .i64 a0_4); have hcz21_5 := cz BK835.out 5 (.int .i64 a0_5); have hfz21_0 := blk_frozen BK835.out 0; have hfz21_1 := blk_frozen BK835.out 1; have hfz21_2 := blk_frozen BK835.out 2; have hfz21_3 := blk_frozen BK835.out 3; have hfz21_4 := blk_frozen BK835.out 4; have hfz21_5 := blk_frozen BK835.out 5) | (go_at_call 85; (with_reducible refine (impl_InRange.calls a0_3 0 9 true _ A4.out).mono ?_); rintro e w' ⟨rfl, ⟨nd, rfl⟩⟩) | (go_at_call 217; (with_reducible refine (impl_IsTime.calls a0_4 false _ A6.out).mono ?_); rintro e w' ⟨rfl, ⟨nd, rfl⟩⟩))
        go_ret
        exact ⟨by first | rfl | (simp [errW_none, errW_some] <;> rfl) | (simp [*, errW_none, errW_some] <;> rfl), bb HB.out⟩
    · replace c5 := Bool.eq_false_iff.mpr c5
      subst c5
      have H1 : (some false) = some r := by rw [if_neg (show ¬ (false = true) by decide)] at H; exact H
      clear H
      have H := H1
      clear H1
      obtain rfl := Option.some.inj H
      go_enter Try.func160, Try.ntmps160
      go_wp2_with (first | ((with_reducible refine gate_dst (N := 1) rfl ?_); refine box_event ?hg (N := 1) ?hd (cs := #[.int .i64 a0_0, .int .i64 a0_1, .int .i64 a0_2, .int .i64 a0_3, .int .i64 a0_4, .int .i64 a0_5]) (t := 119) ?hr ?_; (case hd => rfl); (case hg => rfl); (case hr => first | (go_simp; done) | (go_simp; rfl)); intro gb835 hg w22 hbox hb; have n0_ := Aside0.mk (below_step (bb HB.out) hb); have n1_ := Aside0.mk (hbox); have n2_ := Aside0.mk ((by rw [hg]; exact (below_size (bb HB.out)) : w.heap.size ≤ gb835)); have n3_ := Aside0.mk ((by rw [hg]; exact (below_size (bb HB.out)) : w.heap.size ≤ gb835)); clear HB; have HB := n0_; have BK835 := n1_; have GW835 := n2_; have GE835 := n3_; clear n0_ n1_ n2_ n3_; clear hb hbox hg; have hcz23_0 := cz BK835.out 0 (.int .i64 a0_0); have hcz23_1 := cz BK835.out 1 (.int .i64 a0_1); have hcz23_2 := cz BK835.out 2 (.int .i64 a0_2); have hcz23_3 := cz BK835.out 3 (.int .i64 a0_3); have hcz23_4 := cz BK835.out 4 (.int .i64 a0_4); have hcz23_5 := cz BK835.out 5 (.int .i64 a0_5); have hfz23_0 := blk_frozen BK835.out 0; have hfz23_1 := blk_frozen BK835.out 1; have hfz23_2 := blk_frozen BK835.out 2; have hfz23_3 := blk_frozen BK835.out 3; have hfz23_4 := blk_frozen BK835.out 4; have hfz23_5 := blk_frozen BK835.out 5) | ((with_reducible refine gate_callee (f := 216) rfl ?_); refine gm (some 4) Try.func216 #[.agg #[.int .i64 a0_0, .int .i64 a0_1, .int .i64 a0_2, .int .i64 a0_3, .int .i64 a0_4, .int .i64 a0_5]] ?_; (with_reducible refine (impl_isClaim.calls a0_0 a0_1 a0_2 a0_3 a0_4 a0_5 true _ A2.out).mono ?_); rintro e w24 ⟨rfl, hb⟩; refine ⟨_, rfl, ?_⟩; have n0_ := Aside0.mk (blk_below (rb BK835.out) hb); have n1_ := Aside0.mk (below_step (bb HB.out) hb); clear BK835; clear HB; have BK835 := n0_; have HB := n1_; clear n0_ n1_; (try clear hb); (try clear hb2); (try clear hk); (try clear hi); have hcz25_0 := cz BK835.out 0 (.int .i64 a0_0); have hcz25_1 := cz BK835.out 1 (.int .i64 a0_1); have hcz25_2 := cz BK835.out 2 (.int .i64 a0_2); have hcz25_3 := cz BK835.out 3 (.int .i64 a0_3); have hcz25_4 := cz BK835.out 4 (.int .i64 a0_4); have hcz25_5 := cz BK835.out 5 (.int .i64 a0_5); have hfz25_0 := blk_frozen BK835.out 0; have hfz25_1 := blk_frozen BK835.out 1; have hfz25_2 := blk_frozen BK835.out 2; have hfz25_3 := blk_frozen BK835.out 3; have hfz25_4 := blk_frozen BK835.out 4; have hfz25_5 := blk_frozen BK835.out 5) | (go_at_call 85; (with_reducible refine (impl_InRange.calls a0_3 0 9 false _ A4.out).mono ?_); rintro e w' ⟨rfl, ⟨nd, rfl⟩⟩))
      go_ret
      exact ⟨by first | rfl | (simp [errW_none, errW_some] <;> rfl) | (simp [*, errW_none, errW_some] <;> rfl), bb HB.out⟩
  · replace c3 := Bool.eq_false_iff.mpr c3
    subst c3
    have H1 : (some false) = some r := by rw [if_neg (show ¬ (false = true) by decide)] at H; exact H
    clear H
    have H := H1
    clear H1
    obtain rfl := Option.some.inj H
    go_enter Try.func160, Try.ntmps160
    go_wp2_with (first | ((with_reducible refine gate_dst (N := 1) rfl ?_); refine box_event ?hg (N := 1) ?hd (cs := #[.int .i64 a0_0, .int .i64 a0_1, .int .i64 a0_2, .int .i64 a0_3, .int .i64 a0_4, .int .i64 a0_5]) (t := 119) ?hr ?_; (case hd => rfl); (case hg => rfl); (case hr => first | (go_simp; done) | (go_simp; rfl)); intro gb835 hg w26 hbox hb; have n0_ := Aside0.mk (below_step (bb HB.out) hb); have n1_ := Aside0.mk (hbox); have n2_ := Aside0.mk ((by rw [hg]; exact (below_size (bb HB.out)) : w.heap.size ≤ gb835)); have n3_ := Aside0.mk ((by rw [hg]; exact (below_size (bb HB.out)) : w.heap.size ≤ gb835)); clear HB; have HB := n0_; have BK835 := n1_; have GW835 := n2_; have GE835 := n3_; clear n0_ n1_ n2_ n3_; clear hb hbox hg; have hcz27_0 := cz BK835.out 0 (.int .i64 a0_0); have hcz27_1 := cz BK835.out 1 (.int .i64 a0_1); have hcz27_2 := cz BK835.out 2 (.int .i64 a0_2); have hcz27_3 := cz BK835.out 3 (.int .i64 a0_3); have hcz27_4 := cz BK835.out 4 (.int .i64 a0_4); have hcz27_5 := cz BK835.out 5 (.int .i64 a0_5); have hfz27_0 := blk_frozen BK835.out 0; have hfz27_1 := blk_frozen BK835.out 1; have hfz27_2 := blk_frozen BK835.out 2; have hfz27_3 := blk_frozen BK835.out 3; have hfz27_4 := blk_frozen BK835.out 4; have hfz27_5 := blk_frozen BK835.out 5) | ((with_reducible refine gate_callee (f := 216) rfl ?_); refine gm (some 4) Try.func216 #[.agg #[.int .i64 a0_0, .int .i64 a0_1, .int .i64 a0_2, .int .i64 a0_3, .int .i64 a0_4, .int .i64 a0_5]] ?_; (with_reducible refine (impl_isClaim.calls a0_0 a0_1 a0_2 a0_3 a0_4 a0_5 false _ A2.out).mono ?_); rintro e w28 ⟨rfl, hb⟩; refine ⟨_, rfl, ?_⟩; have n0_ := Aside0.mk (blk_below (rb BK835.out) hb); have n1_ := Aside0.mk (below_step (bb HB.out) hb); clear BK835; clear HB; have BK835 := n0_; have HB := n1_; clear n0_ n1_; (try clear hb); (try clear hb2); (try clear hk); (try clear hi)))
    go_ret
    exact ⟨by first | rfl | (simp [errW_none, errW_some] <;> rfl) | (simp [*, errW_none, errW_some] <;> rfl), bb HB.out⟩
def impl_IsWithin.f (a0 : Int) (a1 : Int) (a2 : Int) : Option (Bool) := (impl_IsTime.f a0).bind fun t840 => (if t840 = true then ((impl_IsTime.f a1).bind fun t841 => (if t841 = true then ((impl_IsTime.f a2).bind fun t842 => (if t842 = true then ((impl_InRange.f a2 a0 a1).bind fun t843 => (some t843)) else (some false))) else (some false))) else (some false))
set_option maxHeartbeats 8000000 in
set_option maxRecDepth 100000 in
theorem impl_IsWithin.calls (a0 : Int) (a1 : Int) (a2 : Int) (r : Bool) (w : World) (h : impl_IsWithin.f a0 a1 a2 = some r) :
    Calls Try.prog 254 #[.int .i64 a0, .int .i64 a1, .int .i64 a2] w fun e w' => e = .returned (.bool r) ∧ Drawn0 w w' := by
  have H : ((impl_IsTime.f a0).bind fun t840 => (if t840 = true then ((impl_IsTime.f a1).bind fun t841 => (if t841 = true then ((impl_IsTime.f a2).bind fun t842 => (if t842 = true then ((impl_InRange.f a2 a0 a1).bind fun t843 => (some t843)) else (some false))) else (some false))) else (some false))) = some r := h
  clear h
  replace H := Option.bind_eq_some_iff.mp H
  obtain ⟨t840, A40, H⟩ := H
  replace H : (if t840 = true then ((impl_IsTime.f a1).bind fun t841 => (if t841 = true then ((impl_IsTime.f a2).bind fun t842 => (if t842 = true then ((impl_InRange.f a2 a0 a1).bind fun t843 => (some t843)) else (some false))) else (some false))) else (some false)) = some r := H
  have A4 := Aside0.mk A40
  clear A40
  by_cases c5 : t840 = true
  · subst c5
    have H1 : ((impl_IsTime.f a1).bind fun t841 => (if t841 = true then ((impl_IsTime.f a2).bind fun t842 => (if t842 = true then ((impl_InRange.f a2 a0 a1).bind fun t843 => (some t843)) else (some false))) else (some false))) = some r := by rw [if_pos rfl] at H; exact H
    clear H
    have H := H1
    clear H1
    replace H := Option.bind_eq_some_iff.mp H
    obtain ⟨t841, A60, H⟩ := H
    replace H : (if t841 = true then ((impl_IsTime.f a2).bind fun t842 => (if t842 = true then ((impl_InRange.f a2 a0 a1).bind fun t843 => (some t843)) else (some false))) else (some false)) = some r := H
    have A6 := Aside0.mk A60
    clear A60
    by_cases c7 : t841 = true
    · subst c7
      have H1 : ((impl_IsTime.f a2).bind fun t842 => (if t842 = true then ((impl_InRange.f a2 a0 a1).bind fun t843 => (some t843)) else (some false))) = some r := by rw [if_pos rfl] at H; exact H
      clear H
      have H := H1
      clear H1
      replace H := Option.bind_eq_some_iff.mp H
      obtain ⟨t842, A80, H⟩ := H
      replace H : (if t842 = true then ((impl_InRange.f a2 a0 a1).bind fun t843 => (some t843)) else (some false)) = some r := H
      have A8 := Aside0.mk A80
      clear A80
      by_cases c9 : t842 = true
      · subst c9
        have H1 : ((impl_InRange.f a2 a0 a1).bind fun t843 => (some t843)) = some r := by rw [if_pos rfl] at H; exact H
        clear H
        have H := H1
        clear H1
        replace H := Option.bind_eq_some_iff.mp H
        obtain ⟨t843, A100, H⟩ := H
        replace H : (some t843) = some r := H
        have A10 := Aside0.mk A100
        clear A100
        obtain rfl := Option.some.inj H
        go_enter Try.func254, Try.ntmps254
        go_wp2_with (first | ((with_reducible refine gate_callee (f := 217) rfl ?_); refine gm (some 8) Try.func217 #[.int .i64 a0] ?_; (with_reducible refine (impl_IsTime.calls a0 true _ A4.out).mono ?_); rintro e w' ⟨rfl, ⟨nd, rfl⟩⟩; refine ⟨_, rfl, ?_⟩) | (go_at_call 217; (with_reducible refine (impl_IsTime.calls a1 true _ A6.out).mono ?_); rintro e w' ⟨rfl, ⟨nd, rfl⟩⟩) | (go_at_call 217; (with_reducible refine (impl_IsTime.calls a2 true _ A8.out).mono ?_); rintro e w' ⟨rfl, ⟨nd, rfl⟩⟩) | (go_at_call 85; (with_reducible refine (impl_InRange.calls a2 a0 a1 t843 _ A10.out).mono ?_); rintro e w' ⟨rfl, ⟨nd, rfl⟩⟩))
        go_ret
        exact ⟨by first | rfl | (simp; done) | (simp [*]; done), by repeat (first | exact Drawn0.refl _ | apply Drawn0.step)⟩
      · replace c9 := Bool.eq_false_iff.mpr c9
        subst c9
        have H1 : (some false) = some r := by rw [if_neg (show ¬ (false = true) by decide)] at H; exact H
        clear H
        have H := H1
        clear H1
        obtain rfl := Option.some.inj H
        go_enter Try.func254, Try.ntmps254
        go_wp2_with (first | ((with_reducible refine gate_callee (f := 217) rfl ?_); refine gm (some 8) Try.func217 #[.int .i64 a0] ?_; (with_reducible refine (impl_IsTime.calls a0 true _ A4.out).mono ?_); rintro e w' ⟨rfl, ⟨nd, rfl⟩⟩; refine ⟨_, rfl, ?_⟩) | (go_at_call 217; (with_reducible refine (impl_IsTime.calls a1 true _ A6.out).mono ?_); rintro e w' ⟨rfl, ⟨nd, rfl⟩⟩) | (go_at_call 217; (with_reducible refine (impl_IsTime.calls a2 false _ A8.out).mono ?_); rintro e w' ⟨rfl, ⟨nd, rfl⟩⟩))
        go_ret
        exact ⟨by first | rfl | (simp; done) | (simp [*]; done), by repeat (first | exact Drawn0.refl _ | apply Drawn0.step)⟩
    · replace c7 := Bool.eq_false_iff.mpr c7
      subst c7
      have H1 : (some false) = some r := by rw [if_neg (show ¬ (false = true) by decide)] at H; exact H
      clear H
      have H := H1
      clear H1
      obtain rfl := Option.some.inj H
      go_enter Try.func254, Try.ntmps254
      go_wp2_with (first | ((with_reducible refine gate_callee (f := 217) rfl ?_); refine gm (some 8) Try.func217 #[.int .i64 a0] ?_; (with_reducible refine (impl_IsTime.calls a0 true _ A4.out).mono ?_); rintro e w' ⟨rfl, ⟨nd, rfl⟩⟩; refine ⟨_, rfl, ?_⟩) | (go_at_call 217; (with_reducible refine (impl_IsTime.calls a1 false _ A6.out).mono ?_); rintro e w' ⟨rfl, ⟨nd, rfl⟩⟩))
      go_ret
      exact ⟨by first | rfl | (simp; done) | (simp [*]; done), by repeat (first | exact Drawn0.refl _ | apply Drawn0.step)⟩
  · replace c5 := Bool.eq_false_iff.mpr c5
    subst c5
    have H1 : (some false) = some r := by rw [if_neg (show ¬ (false = true) by decide)] at H; exact H
    clear H
    have H := H1
    clear H1
    obtain rfl := Option.some.inj H
    go_enter Try.func254, Try.ntmps254
    go_wp2_with (first | ((with_reducible refine gate_callee (f := 217) rfl ?_); refine gm (some 8) Try.func217 #[.int .i64 a0] ?_; (with_reducible refine (impl_IsTime.calls a0 false _ A4.out).mono ?_); rintro e w' ⟨rfl, ⟨nd, rfl⟩⟩; refine ⟨_, rfl, ?_⟩))
    go_ret
    exact ⟨by first | rfl | (simp; done) | (simp [*]; done), by repeat (first | exact Drawn0.refl _ | apply Drawn0.step)⟩
def impl_AgeOf.f (a0 : Int) (a1 : Int) : Option (Int) := (impl_IsTime.f a0).bind fun t844 => (if t844 = true then ((impl_IsTime.f a1).bind fun t845 => (if t845 = true then (if a0 > a1 then (some (-1)) else (some (wrap64 (a1 - a0)))) else (some (-1)))) else (some (-1)))
set_option maxHeartbeats 8000000 in
set_option maxRecDepth 100000 in
theorem impl_AgeOf.calls (a0 : Int) (a1 : Int) (r : Int) (w : World) (h : impl_AgeOf.f a0 a1 = some r) :
    Calls Try.prog 255 #[.int .i64 a0, .int .i64 a1] w fun e w' => e = .returned (.int .i64 r) ∧ Drawn0 w w' := by
  have H : ((impl_IsTime.f a0).bind fun t844 => (if t844 = true then ((impl_IsTime.f a1).bind fun t845 => (if t845 = true then (if a0 > a1 then (some (-1)) else (some (wrap64 (a1 - a0)))) else (some (-1)))) else (some (-1)))) = some r := h
  clear h
  replace H := Option.bind_eq_some_iff.mp H
  obtain ⟨t844, A30, H⟩ := H
  replace H : (if t844 = true then ((impl_IsTime.f a1).bind fun t845 => (if t845 = true then (if a0 > a1 then (some (-1)) else (some (wrap64 (a1 - a0)))) else (some (-1)))) else (some (-1))) = some r := H
  have A3 := Aside0.mk A30
  clear A30
  by_cases c4 : t844 = true
  · subst c4
    have H1 : ((impl_IsTime.f a1).bind fun t845 => (if t845 = true then (if a0 > a1 then (some (-1)) else (some (wrap64 (a1 - a0)))) else (some (-1)))) = some r := by rw [if_pos rfl] at H; exact H
    clear H
    have H := H1
    clear H1
    replace H := Option.bind_eq_some_iff.mp H
    obtain ⟨t845, A50, H⟩ := H
    replace H : (if t845 = true then (if a0 > a1 then (some (-1)) else (some (wrap64 (a1 - a0)))) else (some (-1))) = some r := H
    have A5 := Aside0.mk A50
    clear A50
    by_cases c6 : t845 = true
    · subst c6
      have H1 : (if a0 > a1 then (some (-1)) else (some (wrap64 (a1 - a0)))) = some r := by rw [if_pos rfl] at H; exact H
      clear H
      have H := H1
      clear H1
      by_cases c7 : a0 > a1
      · rw [if_pos c7] at H
        have c7b0 : decide (a1 < a0) = true := decide_eq_true c7
        clear c7
        obtain rfl := Option.some.inj H
        go_enter Try.func255, Try.ntmps255
        go_wp2_with (first | ((with_reducible refine gate_callee (f := 217) rfl ?_); refine gm (some 6) Try.func217 #[.int .i64 a0] ?_; (with_reducible refine (impl_IsTime.calls a0 true _ A3.out).mono ?_); rintro e w' ⟨rfl, ⟨nd, rfl⟩⟩; refine ⟨_, rfl, ?_⟩) | (go_at_call 217; (with_reducible refine (impl_IsTime.calls a1 true _ A5.out).mono ?_); rintro e w' ⟨rfl, ⟨nd, rfl⟩⟩))
        go_ret
        exact ⟨by first | rfl | (simp; done) | (simp [*]; done), by repeat (first | exact Drawn0.refl _ | apply Drawn0.step)⟩
      · rw [if_neg c7] at H
        have c7b0 : decide (a1 < a0) = false := decide_eq_false c7
        clear c7
        obtain rfl := Option.some.inj H
        go_enter Try.func255, Try.ntmps255
        go_wp2_with (first | ((with_reducible refine gate_callee (f := 217) rfl ?_); refine gm (some 6) Try.func217 #[.int .i64 a0] ?_; (with_reducible refine (impl_IsTime.calls a0 true _ A3.out).mono ?_); rintro e w' ⟨rfl, ⟨nd, rfl⟩⟩; refine ⟨_, rfl, ?_⟩) | (go_at_call 217; (with_reducible refine (impl_IsTime.calls a1 true _ A5.out).mono ?_); rintro e w' ⟨rfl, ⟨nd, rfl⟩⟩))
        go_ret
        exact ⟨by first | rfl | (simp; done) | (simp [*]; done), by repeat (first | exact Drawn0.refl _ | apply Drawn0.step)⟩
    · replace c6 := Bool.eq_false_iff.mpr c6
      subst c6
      have H1 : (some (-1)) = some r := by rw [if_neg (show ¬ (false = true) by decide)] at H; exact H
      clear H
      have H := H1
      clear H1
      obtain rfl := Option.some.inj H
      go_enter Try.func255, Try.ntmps255
      go_wp2_with (first | ((with_reducible refine gate_callee (f := 217) rfl ?_); refine gm (some 6) Try.func217 #[.int .i64 a0] ?_; (with_reducible refine (impl_IsTime.calls a0 true _ A3.out).mono ?_); rintro e w' ⟨rfl, ⟨nd, rfl⟩⟩; refine ⟨_, rfl, ?_⟩) | (go_at_call 217; (with_reducible refine (impl_IsTime.calls a1 false _ A5.out).mono ?_); rintro e w' ⟨rfl, ⟨nd, rfl⟩⟩))
      go_ret
      exact ⟨by first | rfl | (simp; done) | (simp [*]; done), by repeat (first | exact Drawn0.refl _ | apply Drawn0.step)⟩
  · replace c4 := Bool.eq_false_iff.mpr c4
    subst c4
    have H1 : (some (-1)) = some r := by rw [if_neg (show ¬ (false = true) by decide)] at H; exact H
    clear H
    have H := H1
    clear H1
    obtain rfl := Option.some.inj H
    go_enter Try.func255, Try.ntmps255
    go_wp2_with (first | ((with_reducible refine gate_callee (f := 217) rfl ?_); refine gm (some 6) Try.func217 #[.int .i64 a0] ?_; (with_reducible refine (impl_IsTime.calls a0 false _ A3.out).mono ?_); rintro e w' ⟨rfl, ⟨nd, rfl⟩⟩; refine ⟨_, rfl, ?_⟩))
    go_ret
    exact ⟨by first | rfl | (simp; done) | (simp [*]; done), by repeat (first | exact Drawn0.refl _ | apply Drawn0.step)⟩
def impl_HoldsAt.f (a0_0 : Int) (a0_1 : Int) (a0_2 : Int) (a0_3 : Int) (a0_4 : Int) (a0_5 : Int) (a1 : Int) (a2 : Int) : Option (Bool) := (impl_IsFact.f a0_0 a0_1 a0_2 a0_3 a0_4 a0_5).bind fun t847 => (if t847 = true then ((impl_IsWithin.f a0_4 a0_5 a1).bind fun t848 => (if t848 = true then ((impl_AgeOf.f a0_4 a1).bind fun t849 => (some (decide (t849 ≤ a2)))) else (some false))) else (some false))
set_option maxHeartbeats 8000000 in
set_option maxRecDepth 100000 in
theorem impl_HoldsAt.calls (a0_0 : Int) (a0_1 : Int) (a0_2 : Int) (a0_3 : Int) (a0_4 : Int) (a0_5 : Int) (a1 : Int) (a2 : Int) (r : Bool) (w : World) (h : impl_HoldsAt.f a0_0 a0_1 a0_2 a0_3 a0_4 a0_5 a1 a2 = some r) :
    Calls Try.prog 209 #[.agg #[.int .i64 a0_0, .int .i64 a0_1, .int .i64 a0_2, .int .i64 a0_3, .int .i64 a0_4, .int .i64 a0_5], .int .i64 a1, .int .i64 a2] w fun e w' => e = .returned (.bool r) ∧ Below w.heap.size w w' := by
  have hu119 := Try.underlying119
  have HB := Aside0.mk (Below.refl w.heap.size w)
  have H : ((impl_IsFact.f a0_0 a0_1 a0_2 a0_3 a0_4 a0_5).bind fun t847 => (if t847 = true then ((impl_IsWithin.f a0_4 a0_5 a1).bind fun t848 => (if t848 = true then ((impl_AgeOf.f a0_4 a1).bind fun t849 => (some (decide (t849 ≤ a2)))) else (some false))) else (some false))) = some r := h
  clear h
  replace H := Option.bind_eq_some_iff.mp H
  obtain ⟨t847, A40, H⟩ := H
  replace H : (if t847 = true then ((impl_IsWithin.f a0_4 a0_5 a1).bind fun t848 => (if t848 = true then ((impl_AgeOf.f a0_4 a1).bind fun t849 => (some (decide (t849 ≤ a2)))) else (some false))) else (some false)) = some r := H
  have A4 := Aside0.mk A40
  clear A40
  by_cases c5 : t847 = true
  · subst c5
    have H1 : ((impl_IsWithin.f a0_4 a0_5 a1).bind fun t848 => (if t848 = true then ((impl_AgeOf.f a0_4 a1).bind fun t849 => (some (decide (t849 ≤ a2)))) else (some false))) = some r := by rw [if_pos rfl] at H; exact H
    clear H
    have H := H1
    clear H1
    replace H := Option.bind_eq_some_iff.mp H
    obtain ⟨t848, A60, H⟩ := H
    replace H : (if t848 = true then ((impl_AgeOf.f a0_4 a1).bind fun t849 => (some (decide (t849 ≤ a2)))) else (some false)) = some r := H
    have A6 := Aside0.mk A60
    clear A60
    by_cases c7 : t848 = true
    · subst c7
      have H1 : ((impl_AgeOf.f a0_4 a1).bind fun t849 => (some (decide (t849 ≤ a2)))) = some r := by rw [if_pos rfl] at H; exact H
      clear H
      have H := H1
      clear H1
      replace H := Option.bind_eq_some_iff.mp H
      obtain ⟨t849, A80, H⟩ := H
      replace H : (some (decide (t849 ≤ a2))) = some r := H
      have A8 := Aside0.mk A80
      clear A80
      obtain rfl := Option.some.inj H
      go_enter Try.func209, Try.ntmps209
      go_wp2_with (first | ((with_reducible refine gate_dst (N := 3) rfl ?_); refine box_event ?hg (N := 3) ?hd (cs := #[.int .i64 a0_0, .int .i64 a0_1, .int .i64 a0_2, .int .i64 a0_3, .int .i64 a0_4, .int .i64 a0_5]) (t := 119) ?hr ?_; (case hd => rfl); (case hg => rfl); (case hr => first | (go_simp; done) | (go_simp; rfl)); intro gb846 hg w9 hbox hb; have n0_ := Aside0.mk (below_step (bb HB.out) hb); have n1_ := Aside0.mk (hbox); have n2_ := Aside0.mk ((by rw [hg]; exact (below_size (bb HB.out)) : w.heap.size ≤ gb846)); have n3_ := Aside0.mk ((by rw [hg]; exact (below_size (bb HB.out)) : w.heap.size ≤ gb846)); clear HB; have HB := n0_; have BK846 := n1_; have GW846 := n2_; have GE846 := n3_; clear n0_ n1_ n2_ n3_; clear hb hbox hg; have hcz10_0 := cz BK846.out 0 (.int .i64 a0_0); have hcz10_1 := cz BK846.out 1 (.int .i64 a0_1); have hcz10_2 := cz BK846.out 2 (.int .i64 a0_2); have hcz10_3 := cz BK846.out 3 (.int .i64 a0_3); have hcz10_4 := cz BK846.out 4 (.int .i64 a0_4); have hcz10_5 := cz BK846.out 5 (.int .i64 a0_5); have hfz10_0 := blk_frozen BK846.out 0; have hfz10_1 := blk_frozen BK846.out 1; have hfz10_2 := blk_frozen BK846.out 2; have hfz10_3 := blk_frozen BK846.out 3; have hfz10_4 := blk_frozen BK846.out 4; have hfz10_5 := blk_frozen BK846.out 5) | ((with_reducible refine gate_callee (f := 160) rfl ?_); refine gm (some 8) Try.func160 #[.agg #[.int .i64 a0_0, .int .i64 a0_1, .int .i64 a0_2, .int .i64 a0_3, .int .i64 a0_4, .int .i64 a0_5]] ?_; (with_reducible refine (impl_IsFact.calls a0_0 a0_1 a0_2 a0_3 a0_4 a0_5 true _ A4.out).mono ?_); rintro e w11 ⟨rfl, hb⟩; refine ⟨_, rfl, ?_⟩; have n0_ := Aside0.mk (blk_below (rb BK846.out) hb); have n1_ := Aside0.mk (below_step (bb HB.out) hb); clear BK846; clear HB; have BK846 := n0_; have HB := n1_; clear n0_ n1_; (try clear hb); (try clear hb2); (try clear hk); (try clear hi); have hcz12_0 := cz BK846.out 0 (.int .i64 a0_0); have hcz12_1 := cz BK846.out 1 (.int .i64 a0_1); have hcz12_2 := cz BK846.out 2 (.int .i64 a0_2); have hcz12_3 := cz BK846.out 3 (.int .i64 a0_3); have hcz12_4 := cz BK846.out 4 (.int .i64 a0_4); have hcz12_5 := cz BK846.out 5 (.int .i64 a0_5); have hfz12_0 := blk_frozen BK846.out 0; have hfz12_1 := blk_frozen BK846.out 1; have hfz12_2 := blk_frozen BK846.out 2; have hfz12_3 := blk_frozen BK846.out 3; have hfz12_4 := blk_frozen BK846.out 4; have hfz12_5 := blk_frozen BK846.out 5) | (go_at_call 254; (with_reducible refine (impl_IsWithin.calls a0_4 a0_5 a1 true _ A6.out).mono ?_); rintro e w' ⟨rfl, ⟨nd, rfl⟩⟩) | (go_at_call 255; (with_reducible refine (impl_AgeOf.calls a0_4 a1 t849 _ A8.out).mono ?_); rintro e w' ⟨rfl, ⟨nd, rfl⟩⟩))
      go_ret
      exact ⟨by first | rfl | (simp [errW_none, errW_some] <;> rfl) | (simp [*, errW_none, errW_some] <;> rfl), bb HB.out⟩
    · replace c7 := Bool.eq_false_iff.mpr c7
      subst c7
      have H1 : (some false) = some r := by rw [if_neg (show ¬ (false = true) by decide)] at H; exact H
      clear H
      have H := H1
      clear H1
      obtain rfl := Option.some.inj H
      go_enter Try.func209, Try.ntmps209
      go_wp2_with (first | ((with_reducible refine gate_dst (N := 3) rfl ?_); refine box_event ?hg (N := 3) ?hd (cs := #[.int .i64 a0_0, .int .i64 a0_1, .int .i64 a0_2, .int .i64 a0_3, .int .i64 a0_4, .int .i64 a0_5]) (t := 119) ?hr ?_; (case hd => rfl); (case hg => rfl); (case hr => first | (go_simp; done) | (go_simp; rfl)); intro gb846 hg w13 hbox hb; have n0_ := Aside0.mk (below_step (bb HB.out) hb); have n1_ := Aside0.mk (hbox); have n2_ := Aside0.mk ((by rw [hg]; exact (below_size (bb HB.out)) : w.heap.size ≤ gb846)); have n3_ := Aside0.mk ((by rw [hg]; exact (below_size (bb HB.out)) : w.heap.size ≤ gb846)); clear HB; have HB := n0_; have BK846 := n1_; have GW846 := n2_; have GE846 := n3_; clear n0_ n1_ n2_ n3_; clear hb hbox hg; have hcz14_0 := cz BK846.out 0 (.int .i64 a0_0); have hcz14_1 := cz BK846.out 1 (.int .i64 a0_1); have hcz14_2 := cz BK846.out 2 (.int .i64 a0_2); have hcz14_3 := cz BK846.out 3 (.int .i64 a0_3); have hcz14_4 := cz BK846.out 4 (.int .i64 a0_4); have hcz14_5 := cz BK846.out 5 (.int .i64 a0_5); have hfz14_0 := blk_frozen BK846.out 0; have hfz14_1 := blk_frozen BK846.out 1; have hfz14_2 := blk_frozen BK846.out 2; have hfz14_3 := blk_frozen BK846.out 3; have hfz14_4 := blk_frozen BK846.out 4; have hfz14_5 := blk_frozen BK846.out 5) | ((with_reducible refine gate_callee (f := 160) rfl ?_); refine gm (some 8) Try.func160 #[.agg #[.int .i64 a0_0, .int .i64 a0_1, .int .i64 a0_2, .int .i64 a0_3, .int .i64 a0_4, .int .i64 a0_5]] ?_; (with_reducible refine (impl_IsFact.calls a0_0 a0_1 a0_2 a0_3 a0_4 a0_5 true _ A4.out).mono ?_); rintro e w15 ⟨rfl, hb⟩; refine ⟨_, rfl, ?_⟩; have n0_ := Aside0.mk (blk_below (rb BK846.out) hb); have n1_ := Aside0.mk (below_step (bb HB.out) hb); clear BK846; clear HB; have BK846 := n0_; have HB := n1_; clear n0_ n1_; (try clear hb); (try clear hb2); (try clear hk); (try clear hi); have hcz16_0 := cz BK846.out 0 (.int .i64 a0_0); have hcz16_1 := cz BK846.out 1 (.int .i64 a0_1); have hcz16_2 := cz BK846.out 2 (.int .i64 a0_2); have hcz16_3 := cz BK846.out 3 (.int .i64 a0_3); have hcz16_4 := cz BK846.out 4 (.int .i64 a0_4); have hcz16_5 := cz BK846.out 5 (.int .i64 a0_5); have hfz16_0 := blk_frozen BK846.out 0; have hfz16_1 := blk_frozen BK846.out 1; have hfz16_2 := blk_frozen BK846.out 2; have hfz16_3 := blk_frozen BK846.out 3; have hfz16_4 := blk_frozen BK846.out 4; have hfz16_5 := blk_frozen BK846.out 5) | (go_at_call 254; (with_reducible refine (impl_IsWithin.calls a0_4 a0_5 a1 false _ A6.out).mono ?_); rintro e w' ⟨rfl, ⟨nd, rfl⟩⟩))
      go_ret
      exact ⟨by first | rfl | (simp [errW_none, errW_some] <;> rfl) | (simp [*, errW_none, errW_some] <;> rfl), bb HB.out⟩
  · replace c5 := Bool.eq_false_iff.mpr c5
    subst c5
    have H1 : (some false) = some r := by rw [if_neg (show ¬ (false = true) by decide)] at H; exact H
    clear H
    have H := H1
    clear H1
    obtain rfl := Option.some.inj H
    go_enter Try.func209, Try.ntmps209
    go_wp2_with (first | ((with_reducible refine gate_dst (N := 3) rfl ?_); refine box_event ?hg (N := 3) ?hd (cs := #[.int .i64 a0_0, .int .i64 a0_1, .int .i64 a0_2, .int .i64 a0_3, .int .i64 a0_4, .int .i64 a0_5]) (t := 119) ?hr ?_; (case hd => rfl); (case hg => rfl); (case hr => first | (go_simp; done) | (go_simp; rfl)); intro gb846 hg w17 hbox hb; have n0_ := Aside0.mk (below_step (bb HB.out) hb); have n1_ := Aside0.mk (hbox); have n2_ := Aside0.mk ((by rw [hg]; exact (below_size (bb HB.out)) : w.heap.size ≤ gb846)); have n3_ := Aside0.mk ((by rw [hg]; exact (below_size (bb HB.out)) : w.heap.size ≤ gb846)); clear HB; have HB := n0_; have BK846 := n1_; have GW846 := n2_; have GE846 := n3_; clear n0_ n1_ n2_ n3_; clear hb hbox hg; have hcz18_0 := cz BK846.out 0 (.int .i64 a0_0); have hcz18_1 := cz BK846.out 1 (.int .i64 a0_1); have hcz18_2 := cz BK846.out 2 (.int .i64 a0_2); have hcz18_3 := cz BK846.out 3 (.int .i64 a0_3); have hcz18_4 := cz BK846.out 4 (.int .i64 a0_4); have hcz18_5 := cz BK846.out 5 (.int .i64 a0_5); have hfz18_0 := blk_frozen BK846.out 0; have hfz18_1 := blk_frozen BK846.out 1; have hfz18_2 := blk_frozen BK846.out 2; have hfz18_3 := blk_frozen BK846.out 3; have hfz18_4 := blk_frozen BK846.out 4; have hfz18_5 := blk_frozen BK846.out 5) | ((with_reducible refine gate_callee (f := 160) rfl ?_); refine gm (some 8) Try.func160 #[.agg #[.int .i64 a0_0, .int .i64 a0_1, .int .i64 a0_2, .int .i64 a0_3, .int .i64 a0_4, .int .i64 a0_5]] ?_; (with_reducible refine (impl_IsFact.calls a0_0 a0_1 a0_2 a0_3 a0_4 a0_5 false _ A4.out).mono ?_); rintro e w19 ⟨rfl, hb⟩; refine ⟨_, rfl, ?_⟩; have n0_ := Aside0.mk (blk_below (rb BK846.out) hb); have n1_ := Aside0.mk (below_step (bb HB.out) hb); clear BK846; clear HB; have BK846 := n0_; have HB := n1_; clear n0_ n1_; (try clear hb); (try clear hb2); (try clear hk); (try clear hi)))
    go_ret
    exact ⟨by first | rfl | (simp [errW_none, errW_some] <;> rfl) | (simp [*, errW_none, errW_some] <;> rfl), bb HB.out⟩
def impl_isRole.f (a0 : Int) : Option (Bool) := (impl_InRange.f a0 0 5).bind fun t850 => (some t850)
set_option maxHeartbeats 8000000 in
set_option maxRecDepth 100000 in
theorem impl_isRole.calls (a0 : Int) (r : Bool) (w : World) (h : impl_isRole.f a0 = some r) :
    Calls Try.prog 275 #[.int .i64 a0] w fun e w' => e = .returned (.bool r) ∧ Drawn0 w w' := by
  have H : ((impl_InRange.f a0 0 5).bind fun t850 => (some t850)) = some r := h
  clear h
  replace H := Option.bind_eq_some_iff.mp H
  obtain ⟨t850, A20, H⟩ := H
  replace H : (some t850) = some r := H
  have A2 := Aside0.mk A20
  clear A20
  obtain rfl := Option.some.inj H
  go_enter Try.func275, Try.ntmps275
  go_wp2_with (first | ((with_reducible refine gate_callee (f := 85) rfl ?_); refine gm (some 4) Try.func85 #[.int .i64 a0, .int .i64 0, .int .i64 5] ?_; (with_reducible refine (impl_InRange.calls a0 0 5 t850 _ A2.out).mono ?_); rintro e w' ⟨rfl, ⟨nd, rfl⟩⟩; refine ⟨_, rfl, ?_⟩))
  go_ret
  exact ⟨by first | rfl | (simp; done) | (simp [*]; done), by repeat (first | exact Drawn0.refl _ | apply Drawn0.step)⟩
end Go.Proofs.Ytbfochojhmggfaa.R
end
section
set_option linter.unusedVariables false
namespace Go.Proofs.Ytbfochojhmggfaa.Roles
open Go.Proofs.Ytbfochojhmggfaa.R
abbrev P := S176
def hit (a : Int) (o : List Bool) (x : P) : Bool := decide (x.f0 = a) && decide (0 ≤ x.f1 ∧ x.f1 ≤ 5) && !(o.getD x.f1.toNat false)
def step (a : Int) (s : List Bool × List Int) (x : P) : List Bool × List Int := if hit a s.1 x then (s.1.set x.f1.toNat true, s.2 ++ [x.f1]) else s
def mu (o : List Bool) (t : List Int) : Nat := 2 * o.count false + t.length
def bfs (l : List P) : Nat → List Bool → List Int → List Bool
  | 0, o, _ => o
  | _ + 1, o, [] => o
  | n + 1, o, a :: t => bfs l n (l.foldl (step a) (o, t)).1 (l.foldl (step a) (o, t)).2
def none6 : List Bool := [false, false, false, false, false, false]
def reached (l : List P) (role : Int) : List Bool := bfs l 13 none6 [role]
def under (l : List P) (role : Int) : List Int :=
  if 0 ≤ role ∧ role ≤ 5 then ((List.range 6).filter fun r => (reached l role).getD r false || decide ((r : Int) = role)).map fun (r : Nat) => (r : Int) else []
theorem count_set {o : List Bool} {j : Nat} (hj : j < o.length) (h : o.getD j false = false) : (o.set j true).count false + 1 = o.count false := by
  induction o generalizing j with
  | nil => simp at hj
  | cons b o ih =>
    cases j with
    | zero =>
      simp only [List.getD_cons_zero] at h
      subst h
      simp
    | succ j =>
      simp only [List.getD_cons_succ] at h
      simp only [List.length_cons] at hj
      have := ih (by omega) h
      simp only [List.set_cons_succ, List.count_cons]
      omega
theorem step_len {a : Int} {s : List Bool × List Int} {x : P} (h : s.1.length = 6) : (step a s x).1.length = 6 := by
  unfold step
  split
  · simpa using h
  · exact h
theorem step_mu {a : Int} {s : List Bool × List Int} {x : P} (h : s.1.length = 6) : mu (step a s x).1 (step a s x).2 ≤ mu s.1 s.2 := by
  unfold step
  split
  · rename_i hh
    simp only [hit, Bool.and_eq_true, decide_eq_true_eq, Bool.not_eq_true'] at hh
    have := count_set (o := s.1) (j := x.f1.toNat) (by omega) hh.2
    simp only [mu, List.length_append, List.length_cons, List.length_nil]
    omega
  · exact Nat.le_refl _
theorem fold_len {a : Int} (l : List P) {s : List Bool × List Int} (h : s.1.length = 6) : (l.foldl (step a) s).1.length = 6 := by
  induction l generalizing s with
  | nil => exact h
  | cons x l ih => exact ih (step_len h)
theorem fold_mu {a : Int} (l : List P) {s : List Bool × List Int} (h : s.1.length = 6) : mu (l.foldl (step a) s).1 (l.foldl (step a) s).2 ≤ mu s.1 s.2 := by
  induction l generalizing s with
  | nil => exact Nat.le_refl _
  | cons x l ih => exact Nat.le_trans (ih (step_len h)) (step_mu h)
theorem bfs_len (l : List P) : ∀ n o t, o.length = 6 → (bfs l n o t).length = 6
  | 0, o, t, h => h
  | n + 1, o, [], h => h
  | n + 1, o, a :: t, h => bfs_len l n _ _ (fold_len l h)
theorem reached_len (l : List P) (role : Int) : (reached l role).length = 6 := bfs_len l _ _ _ rfl
theorem six {o : List Bool} (h : o.length = 6) : ∃ b0 b1 b2 b3 b4 b5, o = [b0, b1, b2, b3, b4, b5] := by
  match o, h with
  | [b0, b1, b2, b3, b4, b5], _ => exact ⟨b0, b1, b2, b3, b4, b5, rfl⟩
end Go.Proofs.Ytbfochojhmggfaa.Roles
end
section
namespace Go.Proofs.Ytbfochojhmggfaa.R
open Go.RowKit Go.Proofs.YtbfochojhmggfaaW.PrintWords Go.Proofs.YtbfochojhmggfaaW.PrintLast Go.Proofs.YtbfochojhmggfaaW.PrintMore
attribute [local go_sem] max2_int min2_int max_two min_two max_three min_three max_four min_four
set_option linter.unusedVariables false
set_option linter.unusedSimpArgs false
theorem isRole_f (x : Int) : impl_isRole.f x = some (decide (0 ≤ x ∧ x ≤ 5)) := by
  unfold impl_isRole.f impl_InRange.f
  by_cases h : 0 ≤ x
  · rw [if_pos h]; simp [h]
  · rw [if_neg h]; simp [h]
theorem set_bools (o : List Bool) (j : Nat) : ((o.map Value.bool).toArray).setIfInBounds j (.bool true) = ((o.set j true).map Value.bool).toArray := by
  simp [List.map_set]
theorem reps_one {W : World} {base : Nat} {ok : Nat → Prop} (x : Int) : Reps ((Kd.int .i64).M W base ok) (Kd.int .i64).sz [x] [.int .i64 x] := by
  refine ⟨rfl, fun j p hj => ?_⟩
  match j, hj with
  | 0, hj => cases hj; exact rfl
def impl_RolesUnder.f (l0 : List (S176)) (a1 : Int) : Option (List Int) := some (Roles.under l0 a1)
set_option maxHeartbeats 8000000 in
set_option maxRecDepth 100000 in
theorem below_any (A : Option Addr) (c : Nat) (l : List S176) (role : Int) (w : World) (hr : Kd.C k176 w A l.length l) (hc : l.length ≤ c) :
    Calls Try.prog 276 #[.slice A l.length c, .int .i64 role] w fun e w' => e = .returned (.agg ((Roles.reached l role).map Value.bool).toArray) ∧ Below w.heap.size w w' := by
  have hu := Try.underlying176
  have hu2 := Try.underlying262
  have HR := Aside0.mk hr
  have HC := Aside0.mk hc
  clear hr hc
  generalize hF : Roles.reached l role = oF
  have HF := Aside0.mk (show Roles.bfs l 13 Roles.none6 [role] = oF from hF)
  clear hF
  have HB := Aside0.mk (Below.refl w.heap.size w)
  go_enter Try.func276, Try.ntmps276
  go_wp2_with (first | ((with_reducible refine gate_dst (N := 4) rfl ?_); refine box_event ?hg (N := 4) ?hd (cs := #[.bool false, .bool false, .bool false, .bool false, .bool false, .bool false]) (t := 262) ?hr ?_; (case hd => rfl); (case hg => rfl); (case hr => first | (go_simp; done) | (go_simp; rfl)); intro g4 hg w4 hbox hb; have n0_ := Aside0.mk (below_step HB.out hb); have G4 := Aside0.mk hbox; have GE4 := Aside0.mk (by rw [hg]; exact Nat.le_refl _ : w.heap.size ≤ g4); clear HB; have HB := n0_; clear n0_ hb hbox hg) | ((with_reducible refine gate_dst (N := 5) rfl ?_); refine box_event ?hg (N := 5) ?hd (cs := #[.bool false, .bool false, .bool false, .bool false, .bool false, .bool false]) (t := 262) ?hr ?_; (case hd => rfl); (case hg => rfl); (case hr => first | (go_simp; done) | (go_simp; rfl)); intro g5 hg w5 hbox hb; have n0_ := Aside0.mk (below_step HB.out hb); have G5 := Aside0.mk hbox; have n1_ := Aside0.mk (blk_below G4.out hb); have NE := Aside0.mk (by rw [hg]; exact Nat.ne_of_lt (blk_lt G4.out) : g4 ≠ g5); have GE5 := Aside0.mk (by rw [hg]; exact below_size HB.out : w.heap.size ≤ g5); clear HB G4; have HB := n0_; have G4 := n1_; clear n0_ n1_ hb hbox hg; have hc5_0 := (blk_cell G5.out 0).trans rfl; have hf5_0 := blk_frozen G5.out 0; have hc5_1 := (blk_cell G5.out 1).trans rfl; have hf5_1 := blk_frozen G5.out 1; have hc5_2 := (blk_cell G5.out 2).trans rfl; have hf5_2 := blk_frozen G5.out 2; have hc5_3 := (blk_cell G5.out 3).trans rfl; have hf5_3 := blk_frozen G5.out 3; have hc5_4 := (blk_cell G5.out 4).trans rfl; have hf5_4 := blk_frozen G5.out 4; have hc5_5 := (blk_cell G5.out 5).trans rfl; have hf5_5 := blk_frozen G5.out 5) | ((with_reducible refine gate_store (t := 262) (p := 5) rfl ?_); refine store_event (t := 262) (p := 5) (v := ?vo_g5w5) (w1 := ((((((w5.setCell ⟨g5, 0, none⟩ (.bool false)).setCell ⟨g5, 1, none⟩ (.bool false)).setCell ⟨g5, 2, none⟩ (.bool false)).setCell ⟨g5, 3, none⟩ (.bool false)).setCell ⟨g5, 4, none⟩ (.bool false)).setCell ⟨g5, 5, none⟩ (.bool false))) ?hg ?ho ?hn ?hr ?_; (case ho => rfl); (case hg => rfl); (case hn => rfl); (case hr => first | (go_simp; done) | (go_simp; rfl)); intro w6 hw; have n0_ := Aside0.mk (by rw [hw]; exact (blk_put (cs' := #[.bool false, .bool false, .bool false, .bool false, .bool false, .bool false]) (blk_put (cs' := #[.bool false, .bool false, .bool false, .bool false, .bool false, .bool false]) (blk_put (cs' := #[.bool false, .bool false, .bool false, .bool false, .bool false, .bool false]) (blk_put (cs' := #[.bool false, .bool false, .bool false, .bool false, .bool false, .bool false]) (blk_put (cs' := #[.bool false, .bool false, .bool false, .bool false, .bool false, .bool false]) (blk_put (cs' := #[.bool false, .bool false, .bool false, .bool false, .bool false, .bool false]) G5.out 0 (.bool false) rfl) 1 (.bool false) rfl) 2 (.bool false) rfl) 3 (.bool false) rfl) 4 (.bool false) rfl) 5 (.bool false) rfl) : w6.heap[g5]? = some (.cells #[.bool false, .bool false, .bool false, .bool false, .bool false, .bool false] 262 (0, 0))); have n1_ := Aside0.mk (by rw [hw]; exact (blk_far (blk_far (blk_far (blk_far (blk_far (blk_far G4.out (p := ⟨g5, 0, none⟩) NE.out (.bool false)) (p := ⟨g5, 1, none⟩) NE.out (.bool false)) (p := ⟨g5, 2, none⟩) NE.out (.bool false)) (p := ⟨g5, 3, none⟩) NE.out (.bool false)) (p := ⟨g5, 4, none⟩) NE.out (.bool false)) (p := ⟨g5, 5, none⟩) NE.out (.bool false)) : w6.heap[g4]? = some (.cells _ 262 (0, 0))); have n2_ := Aside0.mk (by rw [hw]; exact (below_set (below_set (below_set (below_set (below_set (below_set HB.out GE5.out) GE5.out) GE5.out) GE5.out) GE5.out) GE5.out) : Below w.heap.size w w6); clear G4 G5 HB; have G5 := n0_; have G4 := n1_; have HB := n2_; clear n0_ n1_ n2_ hw) | ((with_reducible refine gate_dst (N := 12) rfl ?_); refine Kd.R_lit (Kd.int .i64) _ 3 ?hg (N := 12) ?hd (xs := [role]) (inner := [.int .i64 role]) (ok := fun _ => True) (okp := fun _ => True) ?hr ?hp (fun _ hk => hk) trivial (Below.refl _ _) (Nat.le_refl _) (by simp) ?_; (case hd => rfl); (case hg => rfl); (case hr => first | (go_simp; done) | (go_simp; rfl)); (case hp => exact reps_one role); intro v12 w12 ho hb hg_ hnew_; have QT := Aside0.mk (Kd.Q_of_R (Kd.R_lower ho (below_size HB.out))); have n0_ := Aside0.mk (blk_below G4.out hb); have n1_ := Aside0.mk (blk_below G5.out hb); have n2_ := Aside0.mk (below_step HB.out hb); clear G4 G5 HB; have G4 := n0_; have G5 := n1_; have HB := n2_; clear n0_ n1_ n2_ hg_ hnew_ hb ho))
  clear hc5_0 hc5_1 hc5_2 hc5_3 hc5_4 hc5_5 hf5_0 hf5_1 hf5_2 hf5_3 hf5_4 hf5_5
  go_loopg [6] 13 (fun gg s6 wr => ∃ o t, Aside0 (o.length = 6) ∧ Aside0 (Roles.mu o t ≤ gg ∧ gg ≤ 13) ∧ Aside0 (Roles.bfs l gg o t = oF) ∧ Aside0 (Kd.Q (Kd.int .i64) 3 wr w.heap.size (fun _ => True) s6 t) ∧ Aside0 (wr.heap[g5]? = some (.cells (o.map Value.bool).toArray 262 (0, 0))) ∧ Aside0 (wr.heap[g4]? = some (.cells #[.bool false, .bool false, .bool false, .bool false, .bool false, .bool false] 262 (0, 0))) ∧ Aside0 (Below w.heap.size w wr))
  case atStart => exact ⟨Roles.none6, [role], ⟨rfl⟩, ⟨by simp [Roles.mu, Roles.none6], Nat.le_refl _⟩, HF, QT, G5, G4, HB⟩
  case round =>
    obtain ⟨o, t, HL, HM, HF, QT, G5, G4, HB⟩ := hrel
    by_cases ht : t = []
    · subst ht
      obtain ⟨A6, c6, rfl, hle6⟩ := Kd.Q_slice QT.out
      obtain rfl : o = oF := by
        have h := HF.out
        cases gk <;> exact h
      obtain ⟨b0, b1, b2, b3, b4, b5, rfl⟩ := Roles.six HL.out
      have hlen : decide ((([] : List Int).length : Int) > 0) = false := by decide
      have hc5_0 := (blk_cell G5.out 0).trans rfl; have hf5_0 := blk_frozen G5.out 0; have hc5_1 := (blk_cell G5.out 1).trans rfl; have hf5_1 := blk_frozen G5.out 1; have hc5_2 := (blk_cell G5.out 2).trans rfl; have hf5_2 := blk_frozen G5.out 2; have hc5_3 := (blk_cell G5.out 3).trans rfl; have hf5_3 := blk_frozen G5.out 3; have hc5_4 := (blk_cell G5.out 4).trans rfl; have hf5_4 := blk_frozen G5.out 4; have hc5_5 := (blk_cell G5.out 5).trans rfl; have hf5_5 := blk_frozen G5.out 5
      have hc4_0 := (blk_cell G4.out 0).trans rfl; have hf4_0 := blk_frozen G4.out 0; have hc4_1 := (blk_cell G4.out 1).trans rfl; have hf4_1 := blk_frozen G4.out 1; have hc4_2 := (blk_cell G4.out 2).trans rfl; have hf4_2 := blk_frozen G4.out 2; have hc4_3 := (blk_cell G4.out 3).trans rfl; have hf4_3 := blk_frozen G4.out 3; have hc4_4 := (blk_cell G4.out 4).trans rfl; have hf4_4 := blk_frozen G4.out 4; have hc4_5 := (blk_cell G4.out 5).trans rfl; have hf4_5 := blk_frozen G4.out 5
      go_wp2_with (first | ((with_reducible refine gate_store (t := 262) (p := 4) rfl ?_); refine store_event (t := 262) (p := 4) (v := ?vo_g4wr) (w1 := ((((((wr.setCell ⟨g4, 0, none⟩ (.bool b0)).setCell ⟨g4, 1, none⟩ (.bool b1)).setCell ⟨g4, 2, none⟩ (.bool b2)).setCell ⟨g4, 3, none⟩ (.bool b3)).setCell ⟨g4, 4, none⟩ (.bool b4)).setCell ⟨g4, 5, none⟩ (.bool b5))) ?hg ?ho ?hn ?hr ?_; (case ho => rfl); (case hg => rfl); (case hn => rfl); (case hr => first | (go_simp; done) | (go_simp; rfl)); intro w6 hw; have n0_ := Aside0.mk (by rw [hw]; exact (blk_put (cs' := #[.bool b0, .bool b1, .bool b2, .bool b3, .bool b4, .bool b5]) (blk_put (cs' := #[.bool b0, .bool b1, .bool b2, .bool b3, .bool b4, .bool false]) (blk_put (cs' := #[.bool b0, .bool b1, .bool b2, .bool b3, .bool false, .bool false]) (blk_put (cs' := #[.bool b0, .bool b1, .bool b2, .bool false, .bool false, .bool false]) (blk_put (cs' := #[.bool b0, .bool b1, .bool false, .bool false, .bool false, .bool false]) (blk_put (cs' := #[.bool b0, .bool false, .bool false, .bool false, .bool false, .bool false]) G4.out 0 (.bool b0) rfl) 1 (.bool b1) rfl) 2 (.bool b2) rfl) 3 (.bool b3) rfl) 4 (.bool b4) rfl) 5 (.bool b5) rfl) : w6.heap[g4]? = some (.cells #[.bool b0, .bool b1, .bool b2, .bool b3, .bool b4, .bool b5] 262 (0, 0))); have n1_ := Aside0.mk (by rw [hw]; exact (blk_far (blk_far (blk_far (blk_far (blk_far (blk_far G5.out (p := ⟨g4, 0, none⟩) NE.out.symm (.bool b0)) (p := ⟨g4, 1, none⟩) NE.out.symm (.bool b1)) (p := ⟨g4, 2, none⟩) NE.out.symm (.bool b2)) (p := ⟨g4, 3, none⟩) NE.out.symm (.bool b3)) (p := ⟨g4, 4, none⟩) NE.out.symm (.bool b4)) (p := ⟨g4, 5, none⟩) NE.out.symm (.bool b5)) : w6.heap[g5]? = some (.cells _ 262 (0, 0))); have n2_ := Aside0.mk (by rw [hw]; exact (below_set (below_set (below_set (below_set (below_set (below_set HB.out GE4.out) GE4.out) GE4.out) GE4.out) GE4.out) GE4.out) : Below w.heap.size w w6); clear G4 G5 HB; have G4 := n0_; have G5 := n1_; have HB := n2_; clear n0_ n1_ n2_ hw))
      have hd4_0 := (blk_cell G4.out 0).trans rfl; have he4_0 := blk_frozen G4.out 0; have hd4_1 := (blk_cell G4.out 1).trans rfl; have he4_1 := blk_frozen G4.out 1; have hd4_2 := (blk_cell G4.out 2).trans rfl; have he4_2 := blk_frozen G4.out 2; have hd4_3 := (blk_cell G4.out 3).trans rfl; have he4_3 := blk_frozen G4.out 3; have hd4_4 := (blk_cell G4.out 4).trans rfl; have he4_4 := blk_frozen G4.out 4; have hd4_5 := (blk_cell G4.out 5).trans rfl; have he4_5 := blk_frozen G4.out 5
      clear hc4_0 hc4_1 hc4_2 hc4_3 hc4_4 hc4_5 hf4_0 hf4_1 hf4_2 hf4_3 hf4_4 hf4_5
      refine bodyPost_ret (results_cell_row rfl _ _ g4 262 #[.bool b0, .bool b1, .bool b2, .bool b3, .bool b4, .bool b5] (0, 0) _ rfl G4.out Try.underlying262 rfl (by kernel_rfl)) rfl ?_
      exact ⟨rfl, HB.out⟩
    · have hpos : 0 < t.length := List.length_pos_iff.2 ht
      have hlen : decide ((t.length : Int) > 0) = true := by simpa using hpos
      obtain ⟨g6, o6, c6, rfl, hg6, hl6, cells6, hb6⟩ := Kd.Q_form QT.out hpos
      obtain ⟨a, t1, hat⟩ : ∃ a t1, t = a :: t1 := by cases t with | nil => exact absurd rfl ht | cons a t1 => exact ⟨a, t1, rfl⟩
      have hc6 : wr.cell? ⟨g6, o6, none⟩ = some (.int .i64 a) := by have h := (Kd.Q_cell 0 QT.out 0 (by omega) (by omega)).1; rw [hat] at h; exact h
      have QD := Aside0.mk (Kd.Q_drop QT.out (k := 1) hpos)
      have hdrop : t.drop 1 = t1 := by rw [hat]; rfl
      rw [hdrop] at QD
      have hmu : Roles.mu o t1 + 1 = Roles.mu o t := by rw [hat]; simp [Roles.mu]; omega
      obtain ⟨gk', hgk⟩ : ∃ n, gk = n + 1 := ⟨gk - 1, by have := HM.out.1; omega⟩
      have HF2 := Aside0.mk (show Roles.bfs l gk' (l.foldl (Roles.step a) (o, t1)).1 (l.foldl (Roles.step a) (o, t1)).2 = oF by have h := HF.out; rw [hgk, hat] at h; exact h)
      have HMU := Aside0.mk hmu
      have HGK := Aside0.mk hgk
      have HPOS := Aside0.mk hpos
      clear hb6 hmu hgk hdrop hat ht hg6 hl6 HF
      go_wp2_with fail
      all_goals
        generalize hv6 : Value.slice _ (t.length - 1) _ = v6
        have QT2 : Aside0 (Kd.Q (Kd.int .i64) 3 wr w.heap.size (fun _ => True) v6 t1) := ⟨by rw [← hv6]; have q := QD.out; first | (rw [if_pos h] at q; subst h; exact q) | (rw [if_neg h] at q; exact q)⟩
        clear QD QT hv6 h hc6 hlen
        obtain ⟨sF, hsF⟩ : ∃ sF, sF = l.foldl (Roles.step a) (o, t1) := ⟨_, rfl⟩
        have HS := Aside0.mk hsF
        clear hsF
        go_loopg [6, 23] l.length (fun kk s6 s23 wi => ∃ (i : Nat) (o' : List Bool) (t' : List Int), s23 = .int .i64 i ∧ Aside0 (i ≤ l.length ∧ l.length - i ≤ kk) ∧ Aside0 (o'.length = 6) ∧ Aside0 (Roles.mu o' t' ≤ 13) ∧ Aside0 ((l.drop i).foldl (Roles.step a) (o', t') = sF) ∧ Aside0 (Kd.Q (Kd.int .i64) 3 wi w.heap.size (fun _ => True) s6 t') ∧ Aside0 (wi.heap[g5]? = some (.cells (o'.map Value.bool).toArray 262 (0, 0))) ∧ Aside0 (wi.heap[g4]? = some (.cells #[.bool false, .bool false, .bool false, .bool false, .bool false, .bool false] 262 (0, 0))) ∧ Aside0 (Below w.heap.size w wi))
        case atStart => exact ⟨0, o, t1, rfl, ⟨Nat.zero_le _, by omega⟩, HL, ⟨by have := HMU.out; have := HM.out; omega⟩, ⟨by rw [HS.out]; rfl⟩, QT2, G5, G4, HB⟩
        case round =>
          clear QT2 G5 G4 HB
          obtain ⟨i, o', t', rfl, HI, HL2, HM2, HS2, QT, G5, G4, HB⟩ := hrel
          by_cases hi : i < l.length
          · skip
            have hiz : (i : Int) < (l.length : Int) := by omega
            have hbig : l.length ≤ 9223372036854775807 := HR.out.2.1
            obtain ⟨A7, c7, rfl, hle7⟩ := Kd.Q_slice QT.out
            have HLE7 := Aside0.mk hle7
            clear hle7
            have hdr : l.drop i = l[i] :: l.drop (i + 1) := List.drop_eq_getElem_cons hi
            obtain ⟨ad, eA, hx0, hx1⟩ := at_T176 (Kd.C_below HR.out HB.out) (i : Int) (by omega) hiz
            subst eA
            have er : rd_T176 l (i : Int) = l[i] := by rw [rd_T176, Int.toNat_natCast, List.getD_eq_getElem?_getD, List.getElem?_eq_getElem hi]; rfl
            rw [er] at hx0 hx1
            rw [Int.toNat_natCast] at hx0 hx1
            clear er
            generalize l[i] = x at hx0 hx1 hdr
            obtain ⟨p, q⟩ := x
            simp only at hx0 hx1
            have HI2 := HI.out
            clear HI
            have hrole : ∀ W : World, Calls Try.prog 275 #[.int .i64 q] W fun e w' => e = .returned (.bool (decide (0 ≤ q ∧ q ≤ 5))) ∧ Below W.heap.size W w' := fun W => (impl_isRole.calls q _ W (isRole_f q)).mono (by rintro e w' ⟨rfl, nd, rfl⟩; exact ⟨rfl, pw_below_drewN (Below.refl _ _) nd⟩)
            by_cases c1 : p = a
            · subst c1
              by_cases c2 : 0 ≤ q ∧ q ≤ 5
              · have p1 := eq_true c2.1
                have q1 := eq_true (show q < 6 by omega)
                rw [decide_eq_true c2] at hrole
                have hql : q.toNat < o'.length := by rw [HL2.out]; omega
                have hcell : ((o'.map Value.bool).toArray)[q.toNat]? = some (.bool (o'[q.toNat])) := by simp [hql]
                cases hb5 : o'[q.toNat] with
                | true =>
                  rw [hb5] at hcell
                  have hst : Roles.step p (o', t') ⟨p, q⟩ = (o', t') := by simp [Roles.step, Roles.hit, List.getD_eq_getElem?_getD, hql, hb5]
                  have HCELL := Aside0.mk hcell
                  clear hb5 hql c2
                  go_wp2_with (first | ((with_reducible refine gate_dst (N := 9) rfl ?_); refine box_event ?hg (N := 9) ?hd (cs := #[.int .i64 0, .int .i64 0]) (t := 176) ?hr ?_; (case hd => rfl); (case hg => rfl); (case hr => first | (go_simp; done) | (go_simp; rfl)); intro g9 hg w9 hbox hb; have n0_ := Aside0.mk (below_step HB.out hb); have n1_ := Aside0.mk (blk_below G4.out hb); have n2_ := Aside0.mk (blk_below G5.out hb); have n3_ := Aside0.mk (Kd.Q_below QT.out hb); have N9 := Aside0.mk (by rw [hg]; exact ⟨Nat.ne_of_lt (blk_lt G5.out), Nat.ne_of_lt (blk_lt G4.out), below_size HB.out⟩ : g5 ≠ g9 ∧ g4 ≠ g9 ∧ w.heap.size ≤ g9); clear HB G4 G5 QT; have G9 := Aside0.mk hbox; have HB := n0_; have G4 := n1_; have G5 := n2_; have QT := n3_; clear n0_ n1_ n2_ n3_ hb hbox hg; have hc9_0 := (blk_cell G9.out 0).trans rfl; have hf9_0 := blk_frozen G9.out 0; have hc9_1 := (blk_cell G9.out 1).trans rfl; have hf9_1 := blk_frozen G9.out 1) | ((with_reducible refine gate_store (t := 176) (p := 9) rfl ?_); refine store_event (t := 176) (p := 9) (v := ?vo_9) (w1 := ((w9.setCell ⟨g9, 0, none⟩ (.int .i64 p)).setCell ⟨g9, 1, none⟩ (.int .i64 q))) ?hg ?ho ?hn ?hr ?_; (case ho => rfl); (case hg => rfl); (case hn => rfl); (case hr => first | (go_simp; done) | (go_simp; rfl)); intro w10 hw; have n0_ := Aside0.mk (by rw [hw]; exact below_set (below_set HB.out N9.out.2.2) N9.out.2.2 : Below w.heap.size w w10); have n1_ := Aside0.mk (by rw [hw]; exact blk_far (blk_far G4.out (p := ⟨g9, 0, none⟩) N9.out.2.1 _) (p := ⟨g9, 1, none⟩) N9.out.2.1 _ : w10.heap[g4]? = some (.cells _ 262 (0, 0))); have n2_ := Aside0.mk (by rw [hw]; exact blk_far (blk_far G5.out (p := ⟨g9, 0, none⟩) N9.out.1 _) (p := ⟨g9, 1, none⟩) N9.out.1 _ : w10.heap[g5]? = some (.cells _ 262 (0, 0))); have n3_ := Aside0.mk (by rw [hw]; exact Kd.Q_set (Kd.Q_set QT.out G9.out (by decide) 0 (.int .i64 p)) (blk_put (cs' := #[.int .i64 p, .int .i64 0]) G9.out 0 (.int .i64 p) rfl) (by decide) 1 (.int .i64 q) : Kd.Q (Kd.int .i64) 3 w10 w.heap.size (fun _ => True) _ t'); have n4_ := Aside0.mk (by rw [hw]; exact blk_put (cs' := #[.int .i64 p, .int .i64 q]) (blk_put (cs' := #[.int .i64 p, .int .i64 0]) G9.out 0 (.int .i64 p) rfl) 1 (.int .i64 q) rfl : w10.heap[g9]? = some (.cells #[.int .i64 p, .int .i64 q] 176 (0, 0))); clear HB G4 G5 QT G9 hc9_0 hf9_0 hc9_1 hf9_1; have HB := n0_; have G4 := n1_; have G5 := n2_; have QT := n3_; have G9 := n4_; clear n0_ n1_ n2_ n3_ n4_ hw; have hd9_0 := (blk_cell G9.out 0).trans rfl; have hd9_1 := (blk_cell G9.out 1).trans rfl) | (go_at_call 275; refine (hrole _).mono ?_; rintro e w11 ⟨rfl, hb⟩; have n0_ := Aside0.mk (below_step HB.out hb); have n1_ := Aside0.mk (blk_below G4.out hb); have n2_ := Aside0.mk (blk_below G5.out hb); have n3_ := Aside0.mk (Kd.Q_below QT.out hb); have n4_ := Aside0.mk (blk_below G9.out hb); clear HB G4 G5 QT G9 hd9_0 hd9_1; have HB := n0_; have G4 := n1_; have G5 := n2_; have QT := n3_; have G9 := n4_; clear n0_ n1_ n2_ n3_ n4_ hb; have hd9_0 := (blk_cell G9.out 0).trans rfl; have hd9_1 := (blk_cell G9.out 1).trans rfl; have hco := (blk_cell G5.out q.toNat).trans hcell; have hfo := blk_frozen G5.out q.toNat))
                  go_roundg (l.length - (i + 1))
                  case measure => omega
                  case rel => exact ⟨i + 1, o', t', by go_num, ⟨by omega, by omega⟩, ⟨HL2.out⟩, ⟨HM2.out⟩, ⟨by have h := HS2.out; rw [hdr, List.foldl_cons, hst] at h; exact h⟩, QT, G5, G4, HB⟩
                | false =>
                  rw [hb5] at hcell
                  have hst : Roles.step p (o', t') ⟨p, q⟩ = (o'.set q.toNat true, t' ++ [q]) := by simp [Roles.step, Roles.hit, List.getD_eq_getElem?_getD, hql, hb5, c2]
                  clear hb5 hql c2
                  go_wp2_with (first | ((with_reducible refine gate_dst (N := 9) rfl ?_); refine box_event ?hg (N := 9) ?hd (cs := #[.int .i64 0, .int .i64 0]) (t := 176) ?hr ?_; (case hd => rfl); (case hg => rfl); (case hr => first | (go_simp; done) | (go_simp; rfl)); intro g9 hg w9 hbox hb; have n0_ := Aside0.mk (below_step HB.out hb); have n1_ := Aside0.mk (blk_below G4.out hb); have n2_ := Aside0.mk (blk_below G5.out hb); have n3_ := Aside0.mk (Kd.Q_below QT.out hb); have N9 := Aside0.mk (by rw [hg]; exact ⟨Nat.ne_of_lt (blk_lt G5.out), Nat.ne_of_lt (blk_lt G4.out), below_size HB.out⟩ : g5 ≠ g9 ∧ g4 ≠ g9 ∧ w.heap.size ≤ g9); clear HB G4 G5 QT; have G9 := Aside0.mk hbox; have HB := n0_; have G4 := n1_; have G5 := n2_; have QT := n3_; clear n0_ n1_ n2_ n3_ hb hbox hg; have hc9_0 := (blk_cell G9.out 0).trans rfl; have hf9_0 := blk_frozen G9.out 0; have hc9_1 := (blk_cell G9.out 1).trans rfl; have hf9_1 := blk_frozen G9.out 1) | ((with_reducible refine gate_store (t := 176) (p := 9) rfl ?_); refine store_event (t := 176) (p := 9) (v := ?vo_9) (w1 := ((w9.setCell ⟨g9, 0, none⟩ (.int .i64 p)).setCell ⟨g9, 1, none⟩ (.int .i64 q))) ?hg ?ho ?hn ?hr ?_; (case ho => rfl); (case hg => rfl); (case hn => rfl); (case hr => first | (go_simp; done) | (go_simp; rfl)); intro w10 hw; have n0_ := Aside0.mk (by rw [hw]; exact below_set (below_set HB.out N9.out.2.2) N9.out.2.2 : Below w.heap.size w w10); have n1_ := Aside0.mk (by rw [hw]; exact blk_far (blk_far G4.out (p := ⟨g9, 0, none⟩) N9.out.2.1 _) (p := ⟨g9, 1, none⟩) N9.out.2.1 _ : w10.heap[g4]? = some (.cells _ 262 (0, 0))); have n2_ := Aside0.mk (by rw [hw]; exact blk_far (blk_far G5.out (p := ⟨g9, 0, none⟩) N9.out.1 _) (p := ⟨g9, 1, none⟩) N9.out.1 _ : w10.heap[g5]? = some (.cells _ 262 (0, 0))); have n3_ := Aside0.mk (by rw [hw]; exact Kd.Q_set (Kd.Q_set QT.out G9.out (by decide) 0 (.int .i64 p)) (blk_put (cs' := #[.int .i64 p, .int .i64 0]) G9.out 0 (.int .i64 p) rfl) (by decide) 1 (.int .i64 q) : Kd.Q (Kd.int .i64) 3 w10 w.heap.size (fun _ => True) _ t'); have n4_ := Aside0.mk (by rw [hw]; exact blk_put (cs' := #[.int .i64 p, .int .i64 q]) (blk_put (cs' := #[.int .i64 p, .int .i64 0]) G9.out 0 (.int .i64 p) rfl) 1 (.int .i64 q) rfl : w10.heap[g9]? = some (.cells #[.int .i64 p, .int .i64 q] 176 (0, 0))); clear HB G4 G5 QT G9 hc9_0 hf9_0 hc9_1 hf9_1; have HB := n0_; have G4 := n1_; have G5 := n2_; have QT := n3_; have G9 := n4_; clear n0_ n1_ n2_ n3_ n4_ hw; have hd9_0 := (blk_cell G9.out 0).trans rfl; have hd9_1 := (blk_cell G9.out 1).trans rfl) | (go_at_call 275; refine (hrole _).mono ?_; rintro e w11 ⟨rfl, hb⟩; have n0_ := Aside0.mk (below_step HB.out hb); have n1_ := Aside0.mk (blk_below G4.out hb); have n2_ := Aside0.mk (blk_below G5.out hb); have n3_ := Aside0.mk (Kd.Q_below QT.out hb); have n4_ := Aside0.mk (blk_below G9.out hb); clear HB G4 G5 QT G9 hd9_0 hd9_1; have HB := n0_; have G4 := n1_; have G5 := n2_; have QT := n3_; have G9 := n4_; clear n0_ n1_ n2_ n3_ n4_ hb; have hd9_0 := (blk_cell G9.out 0).trans rfl; have hd9_1 := (blk_cell G9.out 1).trans rfl; have hco := (blk_cell G5.out q.toNat).trans hcell; have hfo := blk_frozen G5.out q.toNat) | ((with_reducible refine gate_store (t := 4) (p := 45) rfl ?_); refine store_event (t := 4) (p := 45) (v := ?vo_45) (w1 := (w11.setCell ⟨g5, q.toNat, none⟩ (.bool true))) ?hg ?ho ?hn ?hr ?_; (case ho => rfl); (case hg => rfl); (case hn => rfl); (case hr => first | (go_simp; done) | (go_simp; rfl)); intro w13 hw; have n0_ := Aside0.mk (by rw [hw]; exact below_set HB.out GE5.out : Below w.heap.size w w13); have n1_ := Aside0.mk (by rw [hw]; exact blk_far G4.out (p := ⟨g5, q.toNat, none⟩) NE.out _ : w13.heap[g4]? = some (.cells _ 262 (0, 0))); have n2_ := Aside0.mk (by rw [hw]; exact blk_put (cs' := ((o'.set q.toNat true).map Value.bool).toArray) G5.out q.toNat (.bool true) (set_bools o' q.toNat) : w13.heap[g5]? = some (.cells _ 262 (0, 0))); have n3_ := Aside0.mk (by rw [hw]; exact Kd.Q_set QT.out G5.out (by decide) q.toNat (.bool true) : Kd.Q (Kd.int .i64) 3 w13 w.heap.size (fun _ => True) _ t'); have n4_ := Aside0.mk (by rw [hw]; exact blk_far G9.out (p := ⟨g5, q.toNat, none⟩) N9.out.1.symm _ : w13.heap[g9]? = some (.cells _ 176 (0, 0))); clear HB G4 G5 QT G9 hd9_0 hd9_1 hco hfo; have HB := n0_; have G4 := n1_; have G5 := n2_; have QT := n3_; have G9 := n4_; clear n0_ n1_ n2_ n3_ n4_ hw; have hd9_0 := (blk_cell G9.out 0).trans rfl; have hd9_1 := (blk_cell G9.out 1).trans rfl) | ((with_reducible refine gate_builtin (b := .append) (xs := #[.tmp 46, .tmp 49]) rfl ?_); at_builtin; refine Kd.Q_append (Kd.int .i64) (w0 := w) w.heap.size rfl (.tmp 46) (.tmp 49) 26 3 (.int .i64 0) 8 rfl Try.underlying26 info3 rfl (by decide) (by omega) (.slice A7 t'.length c7) t' q [.int .i64 q] (fun _ => True) (fun _ => False) rfl (by first | (go_simp; done) | (go_simp; rfl)) ?aP (fun _ hk => hk.elim) ?aF ?aO ?aB ?aS ?aL ?_; (case aP => exact rfl); (case aB => exact HB.out); (case aF => exact (fun _ _ => trivial)); (case aO => exact QT.out); (case aS => exact below_size HB.out); (case aL => have := HM2.out; simp only [Roles.mu] at this; omega); intro v15 w15 ho hb hg hat; have n1_ := Aside0.mk (blk_grown G4.out hg (Kd.Q_ne QT.out G4.out (by decide))); have n2_ := Aside0.mk (blk_grown G5.out hg (Kd.Q_ne QT.out G5.out (by decide))); clear HB G4 G5 QT G9 hd9_0 hd9_1; have HB := Aside0.mk hb; have G4 := n1_; have G5 := n2_; have QT := Aside0.mk ho; clear n1_ n2_ hb hg hat ho))
                  go_roundg (l.length - (i + 1))
                  case measure => omega
                  case rel => exact ⟨i + 1, o'.set q.toNat true, t' ++ [q], by go_num, ⟨by omega, by omega⟩, ⟨by simpa using HL2.out⟩, ⟨Nat.le_trans (by have h := Roles.step_mu (a := p) (s := (o', t')) (x := ⟨p, q⟩) HL2.out; rw [hst] at h; exact h) HM2.out⟩, ⟨by have h := HS2.out; rw [hdr, List.foldl_cons, hst] at h; exact h⟩, QT, G5, G4, HB⟩
              · have hst : Roles.step p (o', t') ⟨p, q⟩ = (o', t') := by simp [Roles.step, Roles.hit, c2]
                rw [decide_eq_false c2] at hrole
                clear c2
                go_wp2_with (first | ((with_reducible refine gate_dst (N := 9) rfl ?_); refine box_event ?hg (N := 9) ?hd (cs := #[.int .i64 0, .int .i64 0]) (t := 176) ?hr ?_; (case hd => rfl); (case hg => rfl); (case hr => first | (go_simp; done) | (go_simp; rfl)); intro g9 hg w9 hbox hb; have n0_ := Aside0.mk (below_step HB.out hb); have n1_ := Aside0.mk (blk_below G4.out hb); have n2_ := Aside0.mk (blk_below G5.out hb); have n3_ := Aside0.mk (Kd.Q_below QT.out hb); have N9 := Aside0.mk (by rw [hg]; exact ⟨Nat.ne_of_lt (blk_lt G5.out), Nat.ne_of_lt (blk_lt G4.out), below_size HB.out⟩ : g5 ≠ g9 ∧ g4 ≠ g9 ∧ w.heap.size ≤ g9); clear HB G4 G5 QT; have G9 := Aside0.mk hbox; have HB := n0_; have G4 := n1_; have G5 := n2_; have QT := n3_; clear n0_ n1_ n2_ n3_ hb hbox hg; have hc9_0 := (blk_cell G9.out 0).trans rfl; have hf9_0 := blk_frozen G9.out 0; have hc9_1 := (blk_cell G9.out 1).trans rfl; have hf9_1 := blk_frozen G9.out 1) | ((with_reducible refine gate_store (t := 176) (p := 9) rfl ?_); refine store_event (t := 176) (p := 9) (v := ?vo_9) (w1 := ((w9.setCell ⟨g9, 0, none⟩ (.int .i64 p)).setCell ⟨g9, 1, none⟩ (.int .i64 q))) ?hg ?ho ?hn ?hr ?_; (case ho => rfl); (case hg => rfl); (case hn => rfl); (case hr => first | (go_simp; done) | (go_simp; rfl)); intro w10 hw; have n0_ := Aside0.mk (by rw [hw]; exact below_set (below_set HB.out N9.out.2.2) N9.out.2.2 : Below w.heap.size w w10); have n1_ := Aside0.mk (by rw [hw]; exact blk_far (blk_far G4.out (p := ⟨g9, 0, none⟩) N9.out.2.1 _) (p := ⟨g9, 1, none⟩) N9.out.2.1 _ : w10.heap[g4]? = some (.cells _ 262 (0, 0))); have n2_ := Aside0.mk (by rw [hw]; exact blk_far (blk_far G5.out (p := ⟨g9, 0, none⟩) N9.out.1 _) (p := ⟨g9, 1, none⟩) N9.out.1 _ : w10.heap[g5]? = some (.cells _ 262 (0, 0))); have n3_ := Aside0.mk (by rw [hw]; exact Kd.Q_set (Kd.Q_set QT.out G9.out (by decide) 0 (.int .i64 p)) (blk_put (cs' := #[.int .i64 p, .int .i64 0]) G9.out 0 (.int .i64 p) rfl) (by decide) 1 (.int .i64 q) : Kd.Q (Kd.int .i64) 3 w10 w.heap.size (fun _ => True) _ t'); have n4_ := Aside0.mk (by rw [hw]; exact blk_put (cs' := #[.int .i64 p, .int .i64 q]) (blk_put (cs' := #[.int .i64 p, .int .i64 0]) G9.out 0 (.int .i64 p) rfl) 1 (.int .i64 q) rfl : w10.heap[g9]? = some (.cells #[.int .i64 p, .int .i64 q] 176 (0, 0))); clear HB G4 G5 QT G9 hc9_0 hf9_0 hc9_1 hf9_1; have HB := n0_; have G4 := n1_; have G5 := n2_; have QT := n3_; have G9 := n4_; clear n0_ n1_ n2_ n3_ n4_ hw; have hd9_0 := (blk_cell G9.out 0).trans rfl; have hd9_1 := (blk_cell G9.out 1).trans rfl) | (go_at_call 275; refine (hrole _).mono ?_; rintro e w11 ⟨rfl, hb⟩; have n0_ := Aside0.mk (below_step HB.out hb); have n1_ := Aside0.mk (blk_below G4.out hb); have n2_ := Aside0.mk (blk_below G5.out hb); have n3_ := Aside0.mk (Kd.Q_below QT.out hb); have n4_ := Aside0.mk (blk_below G9.out hb); clear HB G4 G5 QT G9 hd9_0 hd9_1; have HB := n0_; have G4 := n1_; have G5 := n2_; have QT := n3_; have G9 := n4_; clear n0_ n1_ n2_ n3_ n4_ hb; have hd9_0 := (blk_cell G9.out 0).trans rfl; have hd9_1 := (blk_cell G9.out 1).trans rfl))
                go_roundg (l.length - (i + 1))
                case measure => omega
                case rel => exact ⟨i + 1, o', t', by go_num, ⟨by omega, by omega⟩, ⟨HL2.out⟩, ⟨HM2.out⟩, ⟨by have h := HS2.out; rw [hdr, List.foldl_cons, hst] at h; exact h⟩, QT, G5, G4, HB⟩
            · have hst : Roles.step a (o', t') ⟨p, q⟩ = (o', t') := by simp [Roles.step, Roles.hit, c1]
              go_wp2_with (first | ((with_reducible refine gate_dst (N := 9) rfl ?_); refine box_event ?hg (N := 9) ?hd (cs := #[.int .i64 0, .int .i64 0]) (t := 176) ?hr ?_; (case hd => rfl); (case hg => rfl); (case hr => first | (go_simp; done) | (go_simp; rfl)); intro g9 hg w9 hbox hb; have n0_ := Aside0.mk (below_step HB.out hb); have n1_ := Aside0.mk (blk_below G4.out hb); have n2_ := Aside0.mk (blk_below G5.out hb); have n3_ := Aside0.mk (Kd.Q_below QT.out hb); have N9 := Aside0.mk (by rw [hg]; exact ⟨Nat.ne_of_lt (blk_lt G5.out), Nat.ne_of_lt (blk_lt G4.out), below_size HB.out⟩ : g5 ≠ g9 ∧ g4 ≠ g9 ∧ w.heap.size ≤ g9); clear HB G4 G5 QT; have G9 := Aside0.mk hbox; have HB := n0_; have G4 := n1_; have G5 := n2_; have QT := n3_; clear n0_ n1_ n2_ n3_ hb hbox hg; have hc9_0 := (blk_cell G9.out 0).trans rfl; have hf9_0 := blk_frozen G9.out 0; have hc9_1 := (blk_cell G9.out 1).trans rfl; have hf9_1 := blk_frozen G9.out 1) | ((with_reducible refine gate_store (t := 176) (p := 9) rfl ?_); refine store_event (t := 176) (p := 9) (v := ?vo_9) (w1 := ((w9.setCell ⟨g9, 0, none⟩ (.int .i64 p)).setCell ⟨g9, 1, none⟩ (.int .i64 q))) ?hg ?ho ?hn ?hr ?_; (case ho => rfl); (case hg => rfl); (case hn => rfl); (case hr => first | (go_simp; done) | (go_simp; rfl)); intro w10 hw; have n0_ := Aside0.mk (by rw [hw]; exact below_set (below_set HB.out N9.out.2.2) N9.out.2.2 : Below w.heap.size w w10); have n1_ := Aside0.mk (by rw [hw]; exact blk_far (blk_far G4.out (p := ⟨g9, 0, none⟩) N9.out.2.1 _) (p := ⟨g9, 1, none⟩) N9.out.2.1 _ : w10.heap[g4]? = some (.cells _ 262 (0, 0))); have n2_ := Aside0.mk (by rw [hw]; exact blk_far (blk_far G5.out (p := ⟨g9, 0, none⟩) N9.out.1 _) (p := ⟨g9, 1, none⟩) N9.out.1 _ : w10.heap[g5]? = some (.cells _ 262 (0, 0))); have n3_ := Aside0.mk (by rw [hw]; exact Kd.Q_set (Kd.Q_set QT.out G9.out (by decide) 0 (.int .i64 p)) (blk_put (cs' := #[.int .i64 p, .int .i64 0]) G9.out 0 (.int .i64 p) rfl) (by decide) 1 (.int .i64 q) : Kd.Q (Kd.int .i64) 3 w10 w.heap.size (fun _ => True) _ t'); have n4_ := Aside0.mk (by rw [hw]; exact blk_put (cs' := #[.int .i64 p, .int .i64 q]) (blk_put (cs' := #[.int .i64 p, .int .i64 0]) G9.out 0 (.int .i64 p) rfl) 1 (.int .i64 q) rfl : w10.heap[g9]? = some (.cells #[.int .i64 p, .int .i64 q] 176 (0, 0))); clear HB G4 G5 QT G9 hc9_0 hf9_0 hc9_1 hf9_1; have HB := n0_; have G4 := n1_; have G5 := n2_; have QT := n3_; have G9 := n4_; clear n0_ n1_ n2_ n3_ n4_ hw; have hd9_0 := (blk_cell G9.out 0).trans rfl; have hd9_1 := (blk_cell G9.out 1).trans rfl))
              go_roundg (l.length - (i + 1))
              case measure => omega
              case rel => exact ⟨i + 1, o', t', by go_num, ⟨by omega, by omega⟩, ⟨HL2.out⟩, ⟨HM2.out⟩, ⟨by have h := HS2.out; rw [hdr, List.foldl_cons, hst] at h; exact h⟩, QT, G5, G4, HB⟩
          · have hil : i = l.length := by have := HI.out.1; omega
            have hiz : decide ((i : Int) < (l.length : Int)) = false := by simpa using hi
            go_wp2
            have hsf : (o', t') = sF := by have h := HS2.out; rw [hil, List.drop_length] at h; exact h
            subst hsf
            go_roundg gk'
            case measure => have := HGK.out; omega
            case rel =>
              refine ⟨o', t', HL2, ⟨?_, by have := HGK.out; have := HM.out.2; omega⟩, ⟨by have h := HF2.out; rw [← HS.out] at h; exact h⟩, QT, G5, G4, HB⟩
              have h1 := Roles.fold_mu (a := a) l (s := (o, t1)) HL.out
              rw [← HS.out] at h1
              have h2 := HMU.out; have h3 := HM.out.1; have h4 := HGK.out
              simp only at h1
              omega
def RU (b0 b1 b2 b3 b4 b5 : Bool) (a : Int) (i : Nat) : List Int := ((List.range i).filter fun r => [b0, b1, b2, b3, b4, b5].getD r false || decide ((r : Int) = a)).map fun (r : Nat) => (r : Int)
theorem RU_len (b0 b1 b2 b3 b4 b5 : Bool) (a : Int) (i : Nat) : (RU b0 b1 b2 b3 b4 b5 a i).length ≤ i := by
  unfold RU
  rw [List.length_map]
  exact Nat.le_trans (List.length_filter_le _ _) (by simp)
theorem RU_succ (b0 b1 b2 b3 b4 b5 : Bool) (a : Int) (i : Nat) : RU b0 b1 b2 b3 b4 b5 a (i + 1) = RU b0 b1 b2 b3 b4 b5 a i ++ if [b0, b1, b2, b3, b4, b5].getD i false || decide ((i : Int) = a) then [(i : Int)] else [] := by
  unfold RU
  rw [List.range_succ, List.filter_append, List.map_append]
  congr 1
  by_cases h : ([b0, b1, b2, b3, b4, b5].getD i false || decide ((i : Int) = a)) = true
  · rw [if_pos h]; simp only [List.filter_cons, List.filter_nil, h, if_true]; rfl
  · rw [if_neg h]; simp only [List.filter_cons, List.filter_nil, h, if_false]; rfl
set_option maxHeartbeats 8000000 in
set_option maxRecDepth 100000 in
theorem impl_RolesUnder.calls (A0 : Option Addr) (c0 : Nat) (l0 : List (S176)) (a1 : Int) (r : List Int) (w : World) (hr0 : Kd.C k176 w A0 l0.length l0) (hc0 : l0.length ≤ c0) (h : impl_RolesUnder.f l0 a1 = some r) :
    Calls Try.prog 253 #[.slice A0 l0.length c0, .int .i64 a1] w fun e w' => ∃ v0_ : Value, e = .returned (v0_) ∧ Kd.R (Kd.int .i64) 3 w' w.heap.size (fun _ => True) v0_ r ∧ Below w.heap.size w w' := by
  obtain rfl := Option.some.inj h
  clear h
  have HR := Aside0.mk hr0
  have HC := Aside0.mk hc0
  clear hr0 hc0
  have hrole : ∀ W : World, Calls Try.prog 275 #[.int .i64 a1] W fun e w' => e = .returned (.bool (decide (0 ≤ a1 ∧ a1 ≤ 5))) ∧ Below W.heap.size W w' := fun W => (impl_isRole.calls a1 _ W (isRole_f a1)).mono (by rintro e w' ⟨rfl, nd, rfl⟩; exact ⟨rfl, pw_below_drewN (Below.refl _ _) nd⟩)
  have hcall := fun W hr => below_any A0 c0 l0 a1 W hr HC.out
  have hu6 := Try.underlying262
  have HB := Aside0.mk (Below.refl w.heap.size w)
  by_cases c1 : 0 ≤ a1 ∧ a1 ≤ 5
  · have hun : Roles.under l0 a1 = ((List.range 6).filter fun r => (Roles.reached l0 a1).getD r false || decide ((r : Int) = a1)).map fun (r : Nat) => (r : Int) := by unfold Roles.under; rw [if_pos c1]
    rw [decide_eq_true c1] at hrole
    obtain ⟨b0, b1, b2, b3, b4, b5, hbs⟩ := Roles.six (Roles.reached_len l0 a1)
    rw [hbs] at hcall hun
    rw [hun]
    clear hun c1 hbs
    go_enter Try.func253, Try.ntmps253
    go_wp2_with (first | ((with_reducible refine gate_dst (N := 8) rfl ?_); refine Kd.R_lit (Kd.int .i64) _ 3 ?hg (N := 8) ?hd (xs := ([] : List Int)) (inner := []) (ok := fun _ => True) (okp := fun _ => True) ?hr ?hp (fun _ hk => hk) trivial (Below.refl _ _) (Nat.le_refl _) (by simp) ?_; (case hd => rfl); (case hg => rfl); (case hr => first | (go_simp; done) | (go_simp; rfl)); (case hp => exact Reps.none _ _); intro v8 w8 ho hb hg_ hnew_; have RO := Aside0.mk (Kd.R_lower ho (below_size HB.out)); have n2_ := Aside0.mk (below_step HB.out hb); clear HB; have HB := n2_; clear n2_ hg_ hnew_ hb ho) | (go_at_call 275; refine (hrole _).mono ?_; rintro e w11 ⟨rfl, hb⟩; have n0_ := Aside0.mk (below_step HB.out hb); have n3_ := Aside0.mk (Kd.R_below RO.out hb); clear HB RO; have HB := n0_; have RO := n3_; clear n0_ n3_ hb) | (go_at_call 276; refine (hcall _ (Kd.C_below HR.out HB.out)).mono ?_; rintro e w12 ⟨rfl, hb⟩; have n0_ := Aside0.mk (below_step HB.out hb); have n3_ := Aside0.mk (Kd.R_below RO.out hb); clear HB RO; have HB := n0_; have RO := n3_; clear n0_ n3_ hb))
    go_loopg [5, 16] 6 (fun kk s5 s16 wr => ∃ (i : Nat), s16 = .int .i64 i ∧ Aside0 (i ≤ 6 ∧ 6 - i ≤ kk) ∧ Aside0 (Kd.R (Kd.int .i64) 3 wr w.heap.size (fun _ => True) s5 (RU b0 b1 b2 b3 b4 b5 a1 i)) ∧ Aside0 (Below w.heap.size w wr))
    case atStart => exact ⟨0, rfl, ⟨by omega, by omega⟩, RO, HB⟩
    case round =>
    clear RO HB
    obtain ⟨i, rfl, HI, RO, HB⟩ := hrel
    have hi6 : i = 6 ∨ i = 0 ∨ i = 1 ∨ i = 2 ∨ i = 3 ∨ i = 4 ∨ i = 5 := by have := HI.out.1; omega
    have HI2 := HI.out
    clear HI
    rcases hi6 with rfl | rfl | rfl | rfl | rfl | rfl | rfl
    · go_wp2
      go_ret
      exact ⟨_, rfl, RO.out, HB.out⟩
    · obtain ⟨A7, c7, rfl⟩ := Kd.R_slice RO.out
      obtain ⟨xs, hxs⟩ : ∃ xs, xs = RU b0 b1 b2 b3 b4 b5 a1 0 := ⟨_, rfl⟩
      rw [← hxs] at RO
      have HLX := Aside0.mk (show xs.length ≤ 6 by rw [hxs]; exact Nat.le_trans (RU_len _ _ _ _ _ _ _ _) (by omega))
      rw [← hxs]
      have hidx : ∀ W : World, (Instr.index 262 (Value.agg #[.bool b0, .bool b1, .bool b2, .bool b3, .bool b4, .bool b5]) (.int .i64 0)).run Try.prog W = .ok (.bool b0) W := fun W => by first | rfl | (simp [Instr.run, hu6]; done)
      cases hb : b0 with
      | true =>
        subst hb
        have hrs : RU true b1 b2 b3 b4 b5 a1 1 = xs ++ [0] := by rw [hxs, RU_succ]; simp
        clear hxs
        go_wp2_with (first | ((with_reducible refine gate_builtin (b := .append) (xs := #[.tmp 26, .tmp 28]) rfl ?_); at_builtin; refine Kd.R_append (Kd.int .i64) (w0 := w) w.heap.size rfl (.tmp 26) (.tmp 28) 26 3 (.int .i64 0) 8 rfl Try.underlying26 info3 rfl (by decide) (by omega) (.slice A7 xs.length c7) xs 0 [.int .i64 0] (fun _ => True) (fun _ => False) rfl (by first | (go_simp; done) | (go_simp; rfl)) ?aP (fun _ hk => hk.elim) ?aF ?aO ?aB ?aS ?aL ?_; (case aP => exact rfl); (case aB => exact HB.out); (case aF => exact (fun _ _ => trivial)); (case aO => exact RO.out); (case aS => exact below_size HB.out); (case aL => have := HLX.out; omega); intro v15 w15 ho hb hg hat; clear HB RO; have HB := Aside0.mk hb; have RO := Aside0.mk ho; clear hb hg hat ho))
        go_roundg (6 - 1)
        case measure => omega
        case rel => exact ⟨1, rfl, ⟨by omega⟩, ⟨by rw [hrs]; exact RO.out⟩, HB⟩
      | false =>
        subst hb
        by_cases c3 : (0 : Int) = a1
        · have hrs : RU false b1 b2 b3 b4 b5 a1 1 = xs ++ [0] := by rw [hxs, RU_succ]; simp [c3]
          have c3b : ((0 : Int) == a1) = true := beq_iff_eq.mpr c3
          clear hxs c3
          go_wp2_with (first | ((with_reducible refine gate_builtin (b := .append) (xs := #[.tmp 26, .tmp 28]) rfl ?_); at_builtin; refine Kd.R_append (Kd.int .i64) (w0 := w) w.heap.size rfl (.tmp 26) (.tmp 28) 26 3 (.int .i64 0) 8 rfl Try.underlying26 info3 rfl (by decide) (by omega) (.slice A7 xs.length c7) xs 0 [.int .i64 0] (fun _ => True) (fun _ => False) rfl (by first | (go_simp; done) | (go_simp; rfl)) ?aP (fun _ hk => hk.elim) ?aF ?aO ?aB ?aS ?aL ?_; (case aP => exact rfl); (case aB => exact HB.out); (case aF => exact (fun _ _ => trivial)); (case aO => exact RO.out); (case aS => exact below_size HB.out); (case aL => have := HLX.out; omega); intro v15 w15 ho hb hg hat; clear HB RO; have HB := Aside0.mk hb; have RO := Aside0.mk ho; clear hb hg hat ho))
          go_roundg (6 - 1)
          case measure => omega
          case rel => exact ⟨1, rfl, ⟨by omega⟩, ⟨by rw [hrs]; exact RO.out⟩, HB⟩
        · have hrs : RU false b1 b2 b3 b4 b5 a1 1 = xs := by rw [hxs, RU_succ]; simp [c3]
          have c3b : ((0 : Int) == a1) = false := beq_false_of_ne c3
          clear hxs c3
          go_wp2
          go_roundg (6 - 1)
          case measure => omega
          case rel => exact ⟨1, rfl, ⟨by omega⟩, ⟨by rw [hrs]; exact RO.out⟩, HB⟩
    · obtain ⟨A7, c7, rfl⟩ := Kd.R_slice RO.out
      obtain ⟨xs, hxs⟩ : ∃ xs, xs = RU b0 b1 b2 b3 b4 b5 a1 1 := ⟨_, rfl⟩
      rw [← hxs] at RO
      have HLX := Aside0.mk (show xs.length ≤ 6 by rw [hxs]; exact Nat.le_trans (RU_len _ _ _ _ _ _ _ _) (by omega))
      rw [← hxs]
      have hidx : ∀ W : World, (Instr.index 262 (Value.agg #[.bool b0, .bool b1, .bool b2, .bool b3, .bool b4, .bool b5]) (.int .i64 1)).run Try.prog W = .ok (.bool b1) W := fun W => by first | rfl | (simp [Instr.run, hu6]; done)
      cases hb : b1 with
      | true =>
        subst hb
        have hrs : RU b0 true b2 b3 b4 b5 a1 2 = xs ++ [1] := by rw [hxs, RU_succ]; simp
        clear hxs
        go_wp2_with (first | ((with_reducible refine gate_builtin (b := .append) (xs := #[.tmp 26, .tmp 28]) rfl ?_); at_builtin; refine Kd.R_append (Kd.int .i64) (w0 := w) w.heap.size rfl (.tmp 26) (.tmp 28) 26 3 (.int .i64 0) 8 rfl Try.underlying26 info3 rfl (by decide) (by omega) (.slice A7 xs.length c7) xs 1 [.int .i64 1] (fun _ => True) (fun _ => False) rfl (by first | (go_simp; done) | (go_simp; rfl)) ?aP (fun _ hk => hk.elim) ?aF ?aO ?aB ?aS ?aL ?_; (case aP => exact rfl); (case aB => exact HB.out); (case aF => exact (fun _ _ => trivial)); (case aO => exact RO.out); (case aS => exact below_size HB.out); (case aL => have := HLX.out; omega); intro v15 w15 ho hb hg hat; clear HB RO; have HB := Aside0.mk hb; have RO := Aside0.mk ho; clear hb hg hat ho))
        go_roundg (6 - 2)
        case measure => omega
        case rel => exact ⟨2, rfl, ⟨by omega⟩, ⟨by rw [hrs]; exact RO.out⟩, HB⟩
      | false =>
        subst hb
        by_cases c3 : (1 : Int) = a1
        · have hrs : RU b0 false b2 b3 b4 b5 a1 2 = xs ++ [1] := by rw [hxs, RU_succ]; simp [c3]
          have c3b : ((1 : Int) == a1) = true := beq_iff_eq.mpr c3
          clear hxs c3
          go_wp2_with (first | ((with_reducible refine gate_builtin (b := .append) (xs := #[.tmp 26, .tmp 28]) rfl ?_); at_builtin; refine Kd.R_append (Kd.int .i64) (w0 := w) w.heap.size rfl (.tmp 26) (.tmp 28) 26 3 (.int .i64 0) 8 rfl Try.underlying26 info3 rfl (by decide) (by omega) (.slice A7 xs.length c7) xs 1 [.int .i64 1] (fun _ => True) (fun _ => False) rfl (by first | (go_simp; done) | (go_simp; rfl)) ?aP (fun _ hk => hk.elim) ?aF ?aO ?aB ?aS ?aL ?_; (case aP => exact rfl); (case aB => exact HB.out); (case aF => exact (fun _ _ => trivial)); (case aO => exact RO.out); (case aS => exact below_size HB.out); (case aL => have := HLX.out; omega); intro v15 w15 ho hb hg hat; clear HB RO; have HB := Aside0.mk hb; have RO := Aside0.mk ho; clear hb hg hat ho))
          go_roundg (6 - 2)
          case measure => omega
          case rel => exact ⟨2, rfl, ⟨by omega⟩, ⟨by rw [hrs]; exact RO.out⟩, HB⟩
        · have hrs : RU b0 false b2 b3 b4 b5 a1 2 = xs := by rw [hxs, RU_succ]; simp [c3]
          have c3b : ((1 : Int) == a1) = false := beq_false_of_ne c3
          clear hxs c3
          go_wp2
          go_roundg (6 - 2)
          case measure => omega
          case rel => exact ⟨2, rfl, ⟨by omega⟩, ⟨by rw [hrs]; exact RO.out⟩, HB⟩
    · obtain ⟨A7, c7, rfl⟩ := Kd.R_slice RO.out
      obtain ⟨xs, hxs⟩ : ∃ xs, xs = RU b0 b1 b2 b3 b4 b5 a1 2 := ⟨_, rfl⟩
      rw [← hxs] at RO
      have HLX := Aside0.mk (show xs.length ≤ 6 by rw [hxs]; exact Nat.le_trans (RU_len _ _ _ _ _ _ _ _) (by omega))
      rw [← hxs]
      have hidx : ∀ W : World, (Instr.index 262 (Value.agg #[.bool b0, .bool b1, .bool b2, .bool b3, .bool b4, .bool b5]) (.int .i64 2)).run Try.prog W = .ok (.bool b2) W := fun W => by first | rfl | (simp [Instr.run, hu6]; done)
      cases hb : b2 with
      | true =>
        subst hb
        have hrs : RU b0 b1 true b3 b4 b5 a1 3 = xs ++ [2] := by rw [hxs, RU_succ]; simp
        clear hxs
        go_wp2_with (first | ((with_reducible refine gate_builtin (b := .append) (xs := #[.tmp 26, .tmp 28]) rfl ?_); at_builtin; refine Kd.R_append (Kd.int .i64) (w0 := w) w.heap.size rfl (.tmp 26) (.tmp 28) 26 3 (.int .i64 0) 8 rfl Try.underlying26 info3 rfl (by decide) (by omega) (.slice A7 xs.length c7) xs 2 [.int .i64 2] (fun _ => True) (fun _ => False) rfl (by first | (go_simp; done) | (go_simp; rfl)) ?aP (fun _ hk => hk.elim) ?aF ?aO ?aB ?aS ?aL ?_; (case aP => exact rfl); (case aB => exact HB.out); (case aF => exact (fun _ _ => trivial)); (case aO => exact RO.out); (case aS => exact below_size HB.out); (case aL => have := HLX.out; omega); intro v15 w15 ho hb hg hat; clear HB RO; have HB := Aside0.mk hb; have RO := Aside0.mk ho; clear hb hg hat ho))
        go_roundg (6 - 3)
        case measure => omega
        case rel => exact ⟨3, rfl, ⟨by omega⟩, ⟨by rw [hrs]; exact RO.out⟩, HB⟩
      | false =>
        subst hb
        by_cases c3 : (2 : Int) = a1
        · have hrs : RU b0 b1 false b3 b4 b5 a1 3 = xs ++ [2] := by rw [hxs, RU_succ]; simp [c3]
          have c3b : ((2 : Int) == a1) = true := beq_iff_eq.mpr c3
          clear hxs c3
          go_wp2_with (first | ((with_reducible refine gate_builtin (b := .append) (xs := #[.tmp 26, .tmp 28]) rfl ?_); at_builtin; refine Kd.R_append (Kd.int .i64) (w0 := w) w.heap.size rfl (.tmp 26) (.tmp 28) 26 3 (.int .i64 0) 8 rfl Try.underlying26 info3 rfl (by decide) (by omega) (.slice A7 xs.length c7) xs 2 [.int .i64 2] (fun _ => True) (fun _ => False) rfl (by first | (go_simp; done) | (go_simp; rfl)) ?aP (fun _ hk => hk.elim) ?aF ?aO ?aB ?aS ?aL ?_; (case aP => exact rfl); (case aB => exact HB.out); (case aF => exact (fun _ _ => trivial)); (case aO => exact RO.out); (case aS => exact below_size HB.out); (case aL => have := HLX.out; omega); intro v15 w15 ho hb hg hat; clear HB RO; have HB := Aside0.mk hb; have RO := Aside0.mk ho; clear hb hg hat ho))
          go_roundg (6 - 3)
          case measure => omega
          case rel => exact ⟨3, rfl, ⟨by omega⟩, ⟨by rw [hrs]; exact RO.out⟩, HB⟩
        · have hrs : RU b0 b1 false b3 b4 b5 a1 3 = xs := by rw [hxs, RU_succ]; simp [c3]
          have c3b : ((2 : Int) == a1) = false := beq_false_of_ne c3
          clear hxs c3
          go_wp2
          go_roundg (6 - 3)
          case measure => omega
          case rel => exact ⟨3, rfl, ⟨by omega⟩, ⟨by rw [hrs]; exact RO.out⟩, HB⟩
    · obtain ⟨A7, c7, rfl⟩ := Kd.R_slice RO.out
      obtain ⟨xs, hxs⟩ : ∃ xs, xs = RU b0 b1 b2 b3 b4 b5 a1 3 := ⟨_, rfl⟩
      rw [← hxs] at RO
      have HLX := Aside0.mk (show xs.length ≤ 6 by rw [hxs]; exact Nat.le_trans (RU_len _ _ _ _ _ _ _ _) (by omega))
      rw [← hxs]
      have hidx : ∀ W : World, (Instr.index 262 (Value.agg #[.bool b0, .bool b1, .bool b2, .bool b3, .bool b4, .bool b5]) (.int .i64 3)).run Try.prog W = .ok (.bool b3) W := fun W => by first | rfl | (simp [Instr.run, hu6]; done)
      cases hb : b3 with
      | true =>
        subst hb
        have hrs : RU b0 b1 b2 true b4 b5 a1 4 = xs ++ [3] := by rw [hxs, RU_succ]; simp
        clear hxs
        go_wp2_with (first | ((with_reducible refine gate_builtin (b := .append) (xs := #[.tmp 26, .tmp 28]) rfl ?_); at_builtin; refine Kd.R_append (Kd.int .i64) (w0 := w) w.heap.size rfl (.tmp 26) (.tmp 28) 26 3 (.int .i64 0) 8 rfl Try.underlying26 info3 rfl (by decide) (by omega) (.slice A7 xs.length c7) xs 3 [.int .i64 3] (fun _ => True) (fun _ => False) rfl (by first | (go_simp; done) | (go_simp; rfl)) ?aP (fun _ hk => hk.elim) ?aF ?aO ?aB ?aS ?aL ?_; (case aP => exact rfl); (case aB => exact HB.out); (case aF => exact (fun _ _ => trivial)); (case aO => exact RO.out); (case aS => exact below_size HB.out); (case aL => have := HLX.out; omega); intro v15 w15 ho hb hg hat; clear HB RO; have HB := Aside0.mk hb; have RO := Aside0.mk ho; clear hb hg hat ho))
        go_roundg (6 - 4)
        case measure => omega
        case rel => exact ⟨4, rfl, ⟨by omega⟩, ⟨by rw [hrs]; exact RO.out⟩, HB⟩
      | false =>
        subst hb
        by_cases c3 : (3 : Int) = a1
        · have hrs : RU b0 b1 b2 false b4 b5 a1 4 = xs ++ [3] := by rw [hxs, RU_succ]; simp [c3]
          have c3b : ((3 : Int) == a1) = true := beq_iff_eq.mpr c3
          clear hxs c3
          go_wp2_with (first | ((with_reducible refine gate_builtin (b := .append) (xs := #[.tmp 26, .tmp 28]) rfl ?_); at_builtin; refine Kd.R_append (Kd.int .i64) (w0 := w) w.heap.size rfl (.tmp 26) (.tmp 28) 26 3 (.int .i64 0) 8 rfl Try.underlying26 info3 rfl (by decide) (by omega) (.slice A7 xs.length c7) xs 3 [.int .i64 3] (fun _ => True) (fun _ => False) rfl (by first | (go_simp; done) | (go_simp; rfl)) ?aP (fun _ hk => hk.elim) ?aF ?aO ?aB ?aS ?aL ?_; (case aP => exact rfl); (case aB => exact HB.out); (case aF => exact (fun _ _ => trivial)); (case aO => exact RO.out); (case aS => exact below_size HB.out); (case aL => have := HLX.out; omega); intro v15 w15 ho hb hg hat; clear HB RO; have HB := Aside0.mk hb; have RO := Aside0.mk ho; clear hb hg hat ho))
          go_roundg (6 - 4)
          case measure => omega
          case rel => exact ⟨4, rfl, ⟨by omega⟩, ⟨by rw [hrs]; exact RO.out⟩, HB⟩
        · have hrs : RU b0 b1 b2 false b4 b5 a1 4 = xs := by rw [hxs, RU_succ]; simp [c3]
          have c3b : ((3 : Int) == a1) = false := beq_false_of_ne c3
          clear hxs c3
          go_wp2
          go_roundg (6 - 4)
          case measure => omega
          case rel => exact ⟨4, rfl, ⟨by omega⟩, ⟨by rw [hrs]; exact RO.out⟩, HB⟩
    · obtain ⟨A7, c7, rfl⟩ := Kd.R_slice RO.out
      obtain ⟨xs, hxs⟩ : ∃ xs, xs = RU b0 b1 b2 b3 b4 b5 a1 4 := ⟨_, rfl⟩
      rw [← hxs] at RO
      have HLX := Aside0.mk (show xs.length ≤ 6 by rw [hxs]; exact Nat.le_trans (RU_len _ _ _ _ _ _ _ _) (by omega))
      rw [← hxs]
      have hidx : ∀ W : World, (Instr.index 262 (Value.agg #[.bool b0, .bool b1, .bool b2, .bool b3, .bool b4, .bool b5]) (.int .i64 4)).run Try.prog W = .ok (.bool b4) W := fun W => by first | rfl | (simp [Instr.run, hu6]; done)
      cases hb : b4 with
      | true =>
        subst hb
        have hrs : RU b0 b1 b2 b3 true b5 a1 5 = xs ++ [4] := by rw [hxs, RU_succ]; simp
        clear hxs
        go_wp2_with (first | ((with_reducible refine gate_builtin (b := .append) (xs := #[.tmp 26, .tmp 28]) rfl ?_); at_builtin; refine Kd.R_append (Kd.int .i64) (w0 := w) w.heap.size rfl (.tmp 26) (.tmp 28) 26 3 (.int .i64 0) 8 rfl Try.underlying26 info3 rfl (by decide) (by omega) (.slice A7 xs.length c7) xs 4 [.int .i64 4] (fun _ => True) (fun _ => False) rfl (by first | (go_simp; done) | (go_simp; rfl)) ?aP (fun _ hk => hk.elim) ?aF ?aO ?aB ?aS ?aL ?_; (case aP => exact rfl); (case aB => exact HB.out); (case aF => exact (fun _ _ => trivial)); (case aO => exact RO.out); (case aS => exact below_size HB.out); (case aL => have := HLX.out; omega); intro v15 w15 ho hb hg hat; clear HB RO; have HB := Aside0.mk hb; have RO := Aside0.mk ho; clear hb hg hat ho))
        go_roundg (6 - 5)
        case measure => omega
        case rel => exact ⟨5, rfl, ⟨by omega⟩, ⟨by rw [hrs]; exact RO.out⟩, HB⟩
      | false =>
        subst hb
        by_cases c3 : (4 : Int) = a1
        · have hrs : RU b0 b1 b2 b3 false b5 a1 5 = xs ++ [4] := by rw [hxs, RU_succ]; simp [c3]
          have c3b : ((4 : Int) == a1) = true := beq_iff_eq.mpr c3
          clear hxs c3
          go_wp2_with (first | ((with_reducible refine gate_builtin (b := .append) (xs := #[.tmp 26, .tmp 28]) rfl ?_); at_builtin; refine Kd.R_append (Kd.int .i64) (w0 := w) w.heap.size rfl (.tmp 26) (.tmp 28) 26 3 (.int .i64 0) 8 rfl Try.underlying26 info3 rfl (by decide) (by omega) (.slice A7 xs.length c7) xs 4 [.int .i64 4] (fun _ => True) (fun _ => False) rfl (by first | (go_simp; done) | (go_simp; rfl)) ?aP (fun _ hk => hk.elim) ?aF ?aO ?aB ?aS ?aL ?_; (case aP => exact rfl); (case aB => exact HB.out); (case aF => exact (fun _ _ => trivial)); (case aO => exact RO.out); (case aS => exact below_size HB.out); (case aL => have := HLX.out; omega); intro v15 w15 ho hb hg hat; clear HB RO; have HB := Aside0.mk hb; have RO := Aside0.mk ho; clear hb hg hat ho))
          go_roundg (6 - 5)
          case measure => omega
          case rel => exact ⟨5, rfl, ⟨by omega⟩, ⟨by rw [hrs]; exact RO.out⟩, HB⟩
        · have hrs : RU b0 b1 b2 b3 false b5 a1 5 = xs := by rw [hxs, RU_succ]; simp [c3]
          have c3b : ((4 : Int) == a1) = false := beq_false_of_ne c3
          clear hxs c3
          go_wp2
          go_roundg (6 - 5)
          case measure => omega
          case rel => exact ⟨5, rfl, ⟨by omega⟩, ⟨by rw [hrs]; exact RO.out⟩, HB⟩
    · obtain ⟨A7, c7, rfl⟩ := Kd.R_slice RO.out
      obtain ⟨xs, hxs⟩ : ∃ xs, xs = RU b0 b1 b2 b3 b4 b5 a1 5 := ⟨_, rfl⟩
      rw [← hxs] at RO
      have HLX := Aside0.mk (show xs.length ≤ 6 by rw [hxs]; exact Nat.le_trans (RU_len _ _ _ _ _ _ _ _) (by omega))
      rw [← hxs]
      have hidx : ∀ W : World, (Instr.index 262 (Value.agg #[.bool b0, .bool b1, .bool b2, .bool b3, .bool b4, .bool b5]) (.int .i64 5)).run Try.prog W = .ok (.bool b5) W := fun W => by first | rfl | (simp [Instr.run, hu6]; done)
      cases hb : b5 with
      | true =>
        subst hb
        have hrs : RU b0 b1 b2 b3 b4 true a1 6 = xs ++ [5] := by rw [hxs, RU_succ]; simp
        clear hxs
        go_wp2_with (first | ((with_reducible refine gate_builtin (b := .append) (xs := #[.tmp 26, .tmp 28]) rfl ?_); at_builtin; refine Kd.R_append (Kd.int .i64) (w0 := w) w.heap.size rfl (.tmp 26) (.tmp 28) 26 3 (.int .i64 0) 8 rfl Try.underlying26 info3 rfl (by decide) (by omega) (.slice A7 xs.length c7) xs 5 [.int .i64 5] (fun _ => True) (fun _ => False) rfl (by first | (go_simp; done) | (go_simp; rfl)) ?aP (fun _ hk => hk.elim) ?aF ?aO ?aB ?aS ?aL ?_; (case aP => exact rfl); (case aB => exact HB.out); (case aF => exact (fun _ _ => trivial)); (case aO => exact RO.out); (case aS => exact below_size HB.out); (case aL => have := HLX.out; omega); intro v15 w15 ho hb hg hat; clear HB RO; have HB := Aside0.mk hb; have RO := Aside0.mk ho; clear hb hg hat ho))
        go_roundg (6 - 6)
        case measure => omega
        case rel => exact ⟨6, rfl, ⟨by omega⟩, ⟨by rw [hrs]; exact RO.out⟩, HB⟩
      | false =>
        subst hb
        by_cases c3 : (5 : Int) = a1
        · have hrs : RU b0 b1 b2 b3 b4 false a1 6 = xs ++ [5] := by rw [hxs, RU_succ]; simp [c3]
          have c3b : ((5 : Int) == a1) = true := beq_iff_eq.mpr c3
          clear hxs c3
          go_wp2_with (first | ((with_reducible refine gate_builtin (b := .append) (xs := #[.tmp 26, .tmp 28]) rfl ?_); at_builtin; refine Kd.R_append (Kd.int .i64) (w0 := w) w.heap.size rfl (.tmp 26) (.tmp 28) 26 3 (.int .i64 0) 8 rfl Try.underlying26 info3 rfl (by decide) (by omega) (.slice A7 xs.length c7) xs 5 [.int .i64 5] (fun _ => True) (fun _ => False) rfl (by first | (go_simp; done) | (go_simp; rfl)) ?aP (fun _ hk => hk.elim) ?aF ?aO ?aB ?aS ?aL ?_; (case aP => exact rfl); (case aB => exact HB.out); (case aF => exact (fun _ _ => trivial)); (case aO => exact RO.out); (case aS => exact below_size HB.out); (case aL => have := HLX.out; omega); intro v15 w15 ho hb hg hat; clear HB RO; have HB := Aside0.mk hb; have RO := Aside0.mk ho; clear hb hg hat ho))
          go_roundg (6 - 6)
          case measure => omega
          case rel => exact ⟨6, rfl, ⟨by omega⟩, ⟨by rw [hrs]; exact RO.out⟩, HB⟩
        · have hrs : RU b0 b1 b2 b3 b4 false a1 6 = xs := by rw [hxs, RU_succ]; simp [c3]
          have c3b : ((5 : Int) == a1) = false := beq_false_of_ne c3
          clear hxs c3
          go_wp2
          go_roundg (6 - 6)
          case measure => omega
          case rel => exact ⟨6, rfl, ⟨by omega⟩, ⟨by rw [hrs]; exact RO.out⟩, HB⟩
  · have hun : Roles.under l0 a1 = [] := by unfold Roles.under; rw [if_neg c1]
    rw [decide_eq_false c1] at hrole
    rw [hun]
    clear hun c1
    go_enter Try.func253, Try.ntmps253
    go_wp2_with (first | ((with_reducible refine gate_dst (N := 8) rfl ?_); refine Kd.R_lit (Kd.int .i64) _ 3 ?hg (N := 8) ?hd (xs := ([] : List Int)) (inner := []) (ok := fun _ => True) (okp := fun _ => True) ?hr ?hp (fun _ hk => hk) trivial (Below.refl _ _) (Nat.le_refl _) (by simp) ?_; (case hd => rfl); (case hg => rfl); (case hr => first | (go_simp; done) | (go_simp; rfl)); (case hp => exact Reps.none _ _); intro v8 w8 ho hb hg_ hnew_; have RO := Aside0.mk (Kd.R_lower ho (below_size HB.out)); have n2_ := Aside0.mk (below_step HB.out hb); clear HB; have HB := n2_; clear n2_ hg_ hnew_ hb ho) | (go_at_call 275; refine (hrole _).mono ?_; rintro e w11 ⟨rfl, hb⟩; have n0_ := Aside0.mk (below_step HB.out hb); have n3_ := Aside0.mk (Kd.R_below RO.out hb); clear HB RO; have HB := n0_; have RO := n3_; clear n0_ n3_ hb))
    go_ret
    exact ⟨_, rfl, RO.out, HB.out⟩
end Go.Proofs.Ytbfochojhmggfaa.R
end
section
namespace Go.Proofs.Ytbfochojhmggfaa.R
open Go.RowKit Go.Proofs.YtbfochojhmggfaaW.PrintWords Go.Proofs.YtbfochojhmggfaaW.PrintLast Go.Proofs.YtbfochojhmggfaaW.PrintMore
attribute [local go_sem] max2_int min2_int max_two min_two max_three min_three max_four min_four
set_option linter.unusedVariables false
set_option linter.unusedSimpArgs false
def impl_RolesOf.l0 : Nat → List (S176) → Int → Int → Int → List Int → List (S119) → Int → Int → Option (List Int)
  | 0, _, _, _, _, _, _, _, _ => none
  | k + 1, x0, x2, x3, x4, x11, x15, x16, x17 => if x17 < x16 then (if 0 ≤ x17 then (if x17 < (x15.length : Int) then (if ((rd_T119 x15 x17).f0) = 1 then (if ((rd_T119 x15 x17).f1) = x2 then ((impl_HoldsAt.f ((rd_T119 x15 x17).f0) ((rd_T119 x15 x17).f1) ((rd_T119 x15 x17).f2) ((rd_T119 x15 x17).f3) ((rd_T119 x15 x17).f4) ((rd_T119 x15 x17).f5) x3 x4).bind fun t860 => (if t860 = true then ((impl_RolesUnder.f x0 ((rd_T119 x15 x17).f2)).bind fun t861 => (if x11.length + t861.length < 17592186044416 then (impl_RolesOf.l0 k x0 x2 x3 x4 (x11 ++ t861) x15 x16 (wrap64 (x17 + 1))) else (none))) else (impl_RolesOf.l0 k x0 x2 x3 x4 x11 x15 x16 (wrap64 (x17 + 1))))) else (impl_RolesOf.l0 k x0 x2 x3 x4 x11 x15 x16 (wrap64 (x17 + 1)))) else (impl_RolesOf.l0 k x0 x2 x3 x4 x11 x15 x16 (wrap64 (x17 + 1)))) else (none)) else (none)) else ((slices_Sort_int_int.f x11).bind fun t854 => ((slices_Compact_int_int.f t854).bind fun t855 => (some t855)))
def impl_RolesOf.f (k : Nat) (l0 : List (S176)) (l1 : List (S119)) (a2 : Int) (a3 : Int) (a4 : Int) : Option (List Int) := impl_RolesOf.l0 k l0 a2 a3 a4 (([] : List Int)) l1 (l1.length : Int) 0
set_option maxHeartbeats 8000000 in
set_option maxRecDepth 100000 in
theorem impl_RolesOf.calls (k : Nat) (A0 : Option Addr) (c0 : Nat) (l0 : List (S176)) (A1 : Option Addr) (c1 : Nat) (l1 : List (S119)) (a2 : Int) (a3 : Int) (a4 : Int) (r : List Int) (w : World) (hr0 : Kd.C k176 w A0 l0.length l0) (hc0 : l0.length ≤ c0) (hr1 : Kd.C k119 w A1 l1.length l1) (hc1 : l1.length ≤ c1) (h : impl_RolesOf.f k l0 l1 a2 a3 a4 = some r) :
    Calls Try.prog 206 #[.slice A0 l0.length c0, .slice A1 l1.length c1, .int .i64 a2, .int .i64 a3, .int .i64 a4] w fun e w' => ∃ v0_ : Value, e = .returned (v0_) ∧ Kd.R (Kd.int .i64) 3 w' w.heap.size (fun _ => True) v0_ r ∧ Below w.heap.size w w' := by
  have hu119 := Try.underlying119
  have HR0 := Aside0.mk hr0
  have HC0 := Aside0.mk hc0
  clear hr0 hc0
  have HR1 := Aside0.mk hr1
  have HC1 := Aside0.mk hc1
  clear hr1 hc1
  have HB := Aside0.mk (Below.refl w.heap.size w)
  have H : (impl_RolesOf.l0 k l0 a2 a3 a4 (([] : List Int)) l1 (l1.length : Int) 0) = some r := h
  clear h
  obtain ⟨y851, hy851⟩ : ∃ y_ : List Int, y_ = (([] : List Int)) := ⟨_, rfl⟩
  replace H : (impl_RolesOf.l0 k l0 a2 a3 a4 y851 l1 (l1.length : Int) 0) = some r := by first | (rw [hy851]; with_reducible exact H) | (have H2_ := (Option.bind_some _ _).symm.trans H; rw [hy851]; with_reducible exact H2_) | (have H2_ := (Option.bind_some _ _).symm.trans H; with_reducible exact H2_) | with_reducible exact H | (rw [hy851]; exact H) | exact H
  have Ny851 := Aside0.mk hy851
  clear hy851
  have H' := Aside0.mk H
  clear H
  go_enter Try.func206, Try.ntmps206
  go_wp2_with (first | ((with_reducible refine gate_dst (N := 14) rfl ?_); refine Kd.R_lit (Kd.int .i64) _ 3 ?hg (N := 14) ?hd (xs := ([] : List Int)) (inner := []) (ok := fun _ => True) (okp := fun _ => True) ?hr ?hp (fun _ hk => hk) trivial (Below.refl _ _) (Nat.le_refl _) (by simp) ?_; (case hd => rfl); (case hg => rfl); (case hr => first | (go_simp; done) | (go_simp; rfl)); (case hp => exact (Reps.none _ _)); intro v852 w6 ho7 hb hg_ hnew_; clear hg_ hnew_; (first | rw [← Ny851.out] at ho7 | (simp only [Int.reduceToNat] at ho7; rw [← Ny851.out] at ho7)); have n0_ := Aside0.mk (Kd.R_lower ho7 (below_size (bb HB.out))); have n1_ := Aside0.mk (below_step (bb HB.out) hb); clear HB; have HO853 := n0_; have HB := n1_; clear n0_ n1_; clear hb ho7))
  go_loopg [11, 17] k (fun kq v11 v17 w' => ∃ (x11_1 : List Int) (x17_1 : Int), v17 = .int .i64 x17_1 ∧ Aside0 (impl_RolesOf.l0 kq l0 a2 a3 a4 x11_1 l1 (l1.length : Int) x17_1 = some r) ∧ Aside0 (kq ≤ k) ∧ Aside0 (Kd.R (Kd.int .i64) 3 w' w.heap.size (fun _ => True) v11 x11_1) ∧ Aside0 (Below w.heap.size w w'))
  case atStart => exact ⟨(y851), (0), (by first | rfl | (simp; done) | (simp [*]; done)), H', ⟨Nat.le_refl _⟩, ⟨rr HO853.out⟩, ⟨bb HB.out⟩⟩
  case round =>
    clear H'
    try clear c1
    try clear c2
    try clear p2
    obtain ⟨x11_1, x17_1, rfl, HA, HK1, HO_11, HB⟩ := hrel
    cases gk with
    | zero => exact absurd HA.out (by simp [impl_RolesOf.l0])
    | succ k1 =>
      have H := HA.out
      clear HA
      simp only [impl_RolesOf.l0] at H
      by_cases c8 : x17_1 < (l1.length : Int)
      · rw [if_pos c8] at H
        have c8b0 : decide (x17_1 < (l1.length : Int)) = true := decide_eq_true c8
        clear c8
        by_cases c9 : 0 ≤ x17_1
        · rw [if_pos c9] at H
          have c9b0 : decide (0 ≤ x17_1) = true := decide_eq_true c9
          clear c9
          by_cases c10 : x17_1 < (l1.length : Int)
          · rw [if_pos c10] at H
            have c10b0 : decide (x17_1 < (l1.length : Int)) = true := decide_eq_true c10
            clear c10
            by_cases c11 : ((rd_T119 l1 x17_1).f0) = 1
            · rw [if_pos c11] at H
              have c11b0 : (((rd_T119 l1 x17_1).f0) == 1) = true := beq_iff_eq.mpr c11
              have c11b1 : (((rd_T119 l1 x17_1).f0) != 1) = false := bne_eq_false_iff_eq.mpr c11
              clear c11
              by_cases c12 : ((rd_T119 l1 x17_1).f1) = a2
              · rw [if_pos c12] at H
                have c12b0 : (((rd_T119 l1 x17_1).f1) == a2) = true := beq_iff_eq.mpr c12
                have c12b1 : (((rd_T119 l1 x17_1).f1) != a2) = false := bne_eq_false_iff_eq.mpr c12
                clear c12
                replace H := Option.bind_eq_some_iff.mp H
                obtain ⟨t860, A130, H⟩ := H
                replace H : (if t860 = true then ((impl_RolesUnder.f l0 ((rd_T119 l1 x17_1).f2)).bind fun t861 => (if x11_1.length + t861.length < 17592186044416 then (impl_RolesOf.l0 k1 l0 a2 a3 a4 (x11_1 ++ t861) l1 (l1.length : Int) (wrap64 (x17_1 + 1))) else (none))) else (impl_RolesOf.l0 k1 l0 a2 a3 a4 x11_1 l1 (l1.length : Int) (wrap64 (x17_1 + 1)))) = some r := H
                have A13 := Aside0.mk A130
                clear A130
                by_cases c14 : t860 = true
                · subst c14
                  have H1 : ((impl_RolesUnder.f l0 ((rd_T119 l1 x17_1).f2)).bind fun t861 => (if x11_1.length + t861.length < 17592186044416 then (impl_RolesOf.l0 k1 l0 a2 a3 a4 (x11_1 ++ t861) l1 (l1.length : Int) (wrap64 (x17_1 + 1))) else (none))) = some r := by rw [if_pos rfl] at H; exact H
                  clear H
                  have H := H1
                  clear H1
                  replace H := Option.bind_eq_some_iff.mp H
                  obtain ⟨t861, A150, H⟩ := H
                  replace H : (if x11_1.length + t861.length < 17592186044416 then (impl_RolesOf.l0 k1 l0 a2 a3 a4 (x11_1 ++ t861) l1 (l1.length : Int) (wrap64 (x17_1 + 1))) else (none)) = some r := H
                  have A15 := Aside0.mk A150
                  clear A150
                  by_cases c16 : x11_1.length + t861.length < 17592186044416
                  · rw [if_pos c16] at H
                    have LMc16 := Aside0.mk c16
                    clear c16
                    obtain ⟨y864, hy864⟩ : ∃ y_ : List Int, y_ = (x11_1 ++ t861) := ⟨_, rfl⟩
                    replace H : (impl_RolesOf.l0 k1 l0 a2 a3 a4 y864 l1 (l1.length : Int) (wrap64 (x17_1 + 1))) = some r := by first | (rw [hy864]; with_reducible exact H) | (have H2_ := (Option.bind_some _ _).symm.trans H; rw [hy864]; with_reducible exact H2_) | (have H2_ := (Option.bind_some _ _).symm.trans H; with_reducible exact H2_) | with_reducible exact H | (rw [hy864]; exact H) | exact H
                    have Ny864 := Aside0.mk hy864
                    clear hy864
                    have H' := Aside0.mk H
                    clear H
                    have p858 : 0 ≤ (x17_1 : Int) := of_decide_eq_true (by first | (with_reducible assumption) | assumption)
                    have q858 : x17_1 < (l1.length : Int) := of_decide_eq_true (by first | (with_reducible assumption) | assumption)
                    obtain ⟨ad858, e858, hx858_0, hx858_1, hx858_2, hx858_3, hx858_4, hx858_5⟩ := at_T119 HR1.out x17_1 p858 q858
                    cases e858
                    replace hx858_0 := (HB.out.cell (World.block_lt_of_cell? w _ hx858_0)).trans hx858_0
                    replace hx858_1 := (HB.out.cell (World.block_lt_of_cell? w _ hx858_1)).trans hx858_1
                    replace hx858_2 := (HB.out.cell (World.block_lt_of_cell? w _ hx858_2)).trans hx858_2
                    replace hx858_3 := (HB.out.cell (World.block_lt_of_cell? w _ hx858_3)).trans hx858_3
                    replace hx858_4 := (HB.out.cell (World.block_lt_of_cell? w _ hx858_4)).trans hx858_4
                    replace hx858_5 := (HB.out.cell (World.block_lt_of_cell? w _ hx858_5)).trans hx858_5
                    replace p858 := eq_true p858
                    replace q858 := eq_true q858
                    go_wp2_with (first | ((with_reducible refine gate_dst (N := 13) rfl ?_); refine box_event ?hg (N := 13) ?hd (cs := #[.int .i64 0, .int .i64 0, .int .i64 0, .int .i64 0, .int .i64 0, .int .i64 0]) (t := 119) ?hr ?_; (case hd => rfl); (case hg => rfl); (case hr => first | (go_simp; done) | (go_simp; rfl)); intro gb859 hg w17 hbox hb; have n0_ := Aside0.mk (Kd.R_below (rr HO_11.out) hb); have n1_ := Aside0.mk (below_step (bb HB.out) hb); have n2_ := Aside0.mk (hbox); have n3_ := Aside0.mk ((by rw [hg]; exact (below_size (bb HB.out)) : w.heap.size ≤ gb859)); have n4_ := Aside0.mk ((by rw [hg]; exact (below_size (bb HB.out)) : w.heap.size ≤ gb859)); clear HO_11; clear HB; have HO_11 := n0_; have HB := n1_; have BK859 := n2_; have GW859 := n3_; have GE859 := n4_; clear n0_ n1_ n2_ n3_ n4_; clear hb hbox hg; have hcz18_0 := cz BK859.out 0 (.int .i64 0); have hcz18_1 := cz BK859.out 1 (.int .i64 0); have hcz18_2 := cz BK859.out 2 (.int .i64 0); have hcz18_3 := cz BK859.out 3 (.int .i64 0); have hcz18_4 := cz BK859.out 4 (.int .i64 0); have hcz18_5 := cz BK859.out 5 (.int .i64 0); have hfz18_0 := blk_frozen BK859.out 0; have hfz18_1 := blk_frozen BK859.out 1; have hfz18_2 := blk_frozen BK859.out 2; have hfz18_3 := blk_frozen BK859.out 3; have hfz18_4 := blk_frozen BK859.out 4; have hfz18_5 := blk_frozen BK859.out 5) | (go_at_call 209; (with_reducible refine (impl_HoldsAt.calls ((rd_T119 l1 x17_1).f0) ((rd_T119 l1 x17_1).f1) ((rd_T119 l1 x17_1).f2) ((rd_T119 l1 x17_1).f3) ((rd_T119 l1 x17_1).f4) ((rd_T119 l1 x17_1).f5) a3 a4 true _ A13.out).mono ?_); rintro e w19 ⟨rfl, hb⟩; have n0_ := Aside0.mk (Kd.R_below (by (with_reducible repeat (first | apply Kd.R_alloc | apply Kd.R_drewN | apply Kd.R_drew)); exact (Kd.R_mono (Kd.R_far (p := ⟨gb859, 5, none⟩) (Kd.R_far (p := ⟨gb859, 4, none⟩) (Kd.R_far (p := ⟨gb859, 3, none⟩) (Kd.R_far (p := ⟨gb859, 2, none⟩) (Kd.R_far (p := ⟨gb859, 1, none⟩) (Kd.R_far (p := ⟨gb859, 0, none⟩) (Kd.R_types HO_11.out BK859.out (by decide)) (fun _ hk => hk.2) (.int .i64 ((rd_T119 l1 x17_1).f0))) (fun _ hk => hk.2) (.int .i64 ((rd_T119 l1 x17_1).f1))) (fun _ hk => hk.2) (.int .i64 ((rd_T119 l1 x17_1).f2))) (fun _ hk => hk.2) (.int .i64 ((rd_T119 l1 x17_1).f3))) (fun _ hk => hk.2) (.int .i64 ((rd_T119 l1 x17_1).f4))) (fun _ hk => hk.2) (.int .i64 ((rd_T119 l1 x17_1).f5))) (fun _ h_ => h_.1))) hb); have n1_ := Aside0.mk (blk_below (g := gb859) (o := .cells #[.int .i64 ((rd_T119 l1 x17_1).f0), .int .i64 ((rd_T119 l1 x17_1).f1), .int .i64 ((rd_T119 l1 x17_1).f2), .int .i64 ((rd_T119 l1 x17_1).f3), .int .i64 ((rd_T119 l1 x17_1).f4), .int .i64 ((rd_T119 l1 x17_1).f5)] 119 (0, 0)) (by (with_reducible repeat (first | refine blk_drewN ?_ _ | refine blk_drew ?_ | refine blk_alloc ?_ _)); refine blk_put (cs := #[.int .i64 ((rd_T119 l1 x17_1).f0), .int .i64 ((rd_T119 l1 x17_1).f1), .int .i64 ((rd_T119 l1 x17_1).f2), .int .i64 ((rd_T119 l1 x17_1).f3), .int .i64 ((rd_T119 l1 x17_1).f4), .int .i64 0]) ?_ 5 _ rfl; (with_reducible repeat (first | refine blk_drewN ?_ _ | refine blk_drew ?_ | refine blk_alloc ?_ _)); refine blk_put (cs := #[.int .i64 ((rd_T119 l1 x17_1).f0), .int .i64 ((rd_T119 l1 x17_1).f1), .int .i64 ((rd_T119 l1 x17_1).f2), .int .i64 ((rd_T119 l1 x17_1).f3), .int .i64 0, .int .i64 0]) ?_ 4 _ rfl; (with_reducible repeat (first | refine blk_drewN ?_ _ | refine blk_drew ?_ | refine blk_alloc ?_ _)); refine blk_put (cs := #[.int .i64 ((rd_T119 l1 x17_1).f0), .int .i64 ((rd_T119 l1 x17_1).f1), .int .i64 ((rd_T119 l1 x17_1).f2), .int .i64 0, .int .i64 0, .int .i64 0]) ?_ 3 _ rfl; (with_reducible repeat (first | refine blk_drewN ?_ _ | refine blk_drew ?_ | refine blk_alloc ?_ _)); refine blk_put (cs := #[.int .i64 ((rd_T119 l1 x17_1).f0), .int .i64 ((rd_T119 l1 x17_1).f1), .int .i64 0, .int .i64 0, .int .i64 0, .int .i64 0]) ?_ 2 _ rfl; (with_reducible repeat (first | refine blk_drewN ?_ _ | refine blk_drew ?_ | refine blk_alloc ?_ _)); refine blk_put (cs := #[.int .i64 ((rd_T119 l1 x17_1).f0), .int .i64 0, .int .i64 0, .int .i64 0, .int .i64 0, .int .i64 0]) ?_ 1 _ rfl; (with_reducible repeat (first | refine blk_drewN ?_ _ | refine blk_drew ?_ | refine blk_alloc ?_ _)); refine blk_put (cs := #[.int .i64 0, .int .i64 0, .int .i64 0, .int .i64 0, .int .i64 0, .int .i64 0]) ?_ 0 _ rfl; (with_reducible repeat (first | refine blk_drewN ?_ _ | refine blk_drew ?_ | refine blk_alloc ?_ _)); exact BK859.out) hb); have n2_ := Aside0.mk (below_step (bb HB.out) hb); clear HO_11; clear BK859; clear HB; have HO_11 := n0_; have BK859 := n1_; have HB := n2_; clear n0_ n1_ n2_; (try clear hb); (try clear hb2); (try clear hk); (try clear hi); have hcz20_0 := cz BK859.out 0 (.int .i64 ((rd_T119 l1 x17_1).f0)); have hcz20_1 := cz BK859.out 1 (.int .i64 ((rd_T119 l1 x17_1).f1)); have hcz20_2 := cz BK859.out 2 (.int .i64 ((rd_T119 l1 x17_1).f2)); have hcz20_3 := cz BK859.out 3 (.int .i64 ((rd_T119 l1 x17_1).f3)); have hcz20_4 := cz BK859.out 4 (.int .i64 ((rd_T119 l1 x17_1).f4)); have hcz20_5 := cz BK859.out 5 (.int .i64 ((rd_T119 l1 x17_1).f5)); have hfz20_0 := blk_frozen BK859.out 0; have hfz20_1 := blk_frozen BK859.out 1; have hfz20_2 := blk_frozen BK859.out 2; have hfz20_3 := blk_frozen BK859.out 3; have hfz20_4 := blk_frozen BK859.out 4; have hfz20_5 := blk_frozen BK859.out 5) | ((with_reducible refine gate_callee (f := 253) rfl ?_); refine gm (some 40) Try.func253 #[.slice A0 l0.length c0, .int .i64 ((rd_T119 l1 x17_1).f2)] ?_; (with_reducible refine (impl_RolesUnder.calls _ _ l0 ((rd_T119 l1 x17_1).f2) t861 _ ?side1 ?side2 A15.out).mono ?_); (case side1 => repeat (first | exact (Kd.C_below HR0.out HB.out) | (with_reducible refine Kd.C_alloc ?_ _) | (with_reducible refine Kd.C_drewN ?_ _) | (with_reducible refine Kd.C_drew ?_))); (case side2 => exact HC0.out); rintro e w21 ⟨v862, rfl, ho0, hb⟩; refine ⟨_, rfl, ?_⟩; have n0_ := Aside0.mk (Kd.R_elder' (rr HO_11.out) (Kd.R_base ho0) hb); have n1_ := Aside0.mk (Kd.R_lower (Kd.R_new' ho0 (Kd.R_lt (rr HO_11.out))) (below_size (bb HB.out))); have n2_ := Aside0.mk (blk_below (rb BK859.out) hb); have n3_ := Aside0.mk (below_step (bb HB.out) hb); clear HO_11; clear BK859; clear HB; have HO_11 := n0_; have HO863 := n1_; have BK859 := n2_; have HB := n3_; clear n0_ n1_ n2_ n3_; (try clear hb); (try clear hb2); (try clear hk); (try clear hi); (try clear ho0); obtain ⟨Ao23, co23, eo23⟩ := Kd.R_slice HO863.out; subst eo23) | ((with_reducible refine gate_builtin (b := .append) (xs := #[.tmp 36, .tmp 40]) rfl ?_); at_builtin; refine Kd.R_append_rows (Kd.int .i64) (w0 := w) w.heap.size rfl (.tmp 36) (.tmp 40) 26 3 (.int .i64 0) 8 rfl Try.underlying26 info3 rfl (by decide) (by omega) u11 x11_1 t861 _ _ _ (fun k_ => some k_ ≠ (.slice Ao23 t861.length co23 : Value).ownBlock) (fun _ => False) rfl rfl ?aO ?aR (fun _ _ h => h) (fun _ h => h.elim) ?aF ?aB ?aS ?aL ?_; (case aR => repeat (first | exact (Kd.R_reads' HO863.out).2.2 | (with_reducible refine Kd.C_alloc ?_ _) | (with_reducible refine Kd.C_drewN ?_ _) | (with_reducible refine Kd.C_drew ?_))); (case aB => exact (bb HB.out)); (case aF => exact (fun k_ hk => Kd.fresh' (Kd.R_lt (rr HO863.out)) k_ hk)); (case aO => exact (by (with_reducible repeat (first | apply Kd.R_alloc | apply Kd.R_drewN | apply Kd.R_drew)); exact Kd.R_mono HO_11.out (fun _ hk => hk.2))); (case aS => exact (below_size (bb HB.out))); (case aL => have := LMc16.out; omega); intro v865 w22 ho hb hg hat; rw [← Ny864.out] at ho; have n0_ := Aside0.mk (blk_grown (g := gb859) (o := .cells #[.int .i64 ((rd_T119 l1 x17_1).f0), .int .i64 ((rd_T119 l1 x17_1).f1), .int .i64 ((rd_T119 l1 x17_1).f2), .int .i64 ((rd_T119 l1 x17_1).f3), .int .i64 ((rd_T119 l1 x17_1).f4), .int .i64 ((rd_T119 l1 x17_1).f5)] 119 (0, 0)) (rb BK859.out) hg (Kd.R_ne HO_11.out BK859.out (by decide))); have n1_ := Aside0.mk (Kd.R_after (ok := (fun _ => True)) (rr HO863.out) hg hat); have n2_ := Aside0.mk (hb); have n3_ := Aside0.mk (ho); clear BK859; clear HO863; clear HB; clear HO_11; have BK859 := n0_; have HO863 := n1_; have HB := n2_; have HO866 := n3_; clear n0_ n1_ n2_ n3_; clear ho hb hg hat))
                    go_roundg k1
                    case measure => have := HK1.out; omega
                    case rel => exact ⟨(y864), (wrap64 (x17_1 + 1)), (by first | rfl | (simp; done) | (simp [*]; done)), H', ⟨by have := HK1.out; omega⟩, ⟨by (with_reducible repeat (first | apply Kd.R_alloc | apply Kd.R_drewN | apply Kd.R_drew)); exact Kd.R_mono HO866.out (fun _ hk => trivial)⟩, ⟨bb HB.out⟩⟩
                  · rw [if_neg c16] at H
                    exact absurd H (by simp)
                · replace c14 := Bool.eq_false_iff.mpr c14
                  subst c14
                  have H1 : (impl_RolesOf.l0 k1 l0 a2 a3 a4 x11_1 l1 (l1.length : Int) (wrap64 (x17_1 + 1))) = some r := by rw [if_neg (show ¬ (false = true) by decide)] at H; exact H
                  clear H
                  have H := H1
                  clear H1
                  have H' := Aside0.mk H
                  clear H
                  have p858 : 0 ≤ (x17_1 : Int) := of_decide_eq_true (by first | (with_reducible assumption) | assumption)
                  have q858 : x17_1 < (l1.length : Int) := of_decide_eq_true (by first | (with_reducible assumption) | assumption)
                  obtain ⟨ad858, e858, hx858_0, hx858_1, hx858_2, hx858_3, hx858_4, hx858_5⟩ := at_T119 HR1.out x17_1 p858 q858
                  cases e858
                  replace hx858_0 := (HB.out.cell (World.block_lt_of_cell? w _ hx858_0)).trans hx858_0
                  replace hx858_1 := (HB.out.cell (World.block_lt_of_cell? w _ hx858_1)).trans hx858_1
                  replace hx858_2 := (HB.out.cell (World.block_lt_of_cell? w _ hx858_2)).trans hx858_2
                  replace hx858_3 := (HB.out.cell (World.block_lt_of_cell? w _ hx858_3)).trans hx858_3
                  replace hx858_4 := (HB.out.cell (World.block_lt_of_cell? w _ hx858_4)).trans hx858_4
                  replace hx858_5 := (HB.out.cell (World.block_lt_of_cell? w _ hx858_5)).trans hx858_5
                  replace p858 := eq_true p858
                  replace q858 := eq_true q858
                  go_wp2_with (first | ((with_reducible refine gate_dst (N := 13) rfl ?_); refine box_event ?hg (N := 13) ?hd (cs := #[.int .i64 0, .int .i64 0, .int .i64 0, .int .i64 0, .int .i64 0, .int .i64 0]) (t := 119) ?hr ?_; (case hd => rfl); (case hg => rfl); (case hr => first | (go_simp; done) | (go_simp; rfl)); intro gb859 hg w24 hbox hb; have n0_ := Aside0.mk (Kd.R_below (rr HO_11.out) hb); have n1_ := Aside0.mk (below_step (bb HB.out) hb); have n2_ := Aside0.mk (hbox); have n3_ := Aside0.mk ((by rw [hg]; exact (below_size (bb HB.out)) : w.heap.size ≤ gb859)); have n4_ := Aside0.mk ((by rw [hg]; exact (below_size (bb HB.out)) : w.heap.size ≤ gb859)); clear HO_11; clear HB; have HO_11 := n0_; have HB := n1_; have BK859 := n2_; have GW859 := n3_; have GE859 := n4_; clear n0_ n1_ n2_ n3_ n4_; clear hb hbox hg; have hcz25_0 := cz BK859.out 0 (.int .i64 0); have hcz25_1 := cz BK859.out 1 (.int .i64 0); have hcz25_2 := cz BK859.out 2 (.int .i64 0); have hcz25_3 := cz BK859.out 3 (.int .i64 0); have hcz25_4 := cz BK859.out 4 (.int .i64 0); have hcz25_5 := cz BK859.out 5 (.int .i64 0); have hfz25_0 := blk_frozen BK859.out 0; have hfz25_1 := blk_frozen BK859.out 1; have hfz25_2 := blk_frozen BK859.out 2; have hfz25_3 := blk_frozen BK859.out 3; have hfz25_4 := blk_frozen BK859.out 4; have hfz25_5 := blk_frozen BK859.out 5) | (go_at_call 209; (with_reducible refine (impl_HoldsAt.calls ((rd_T119 l1 x17_1).f0) ((rd_T119 l1 x17_1).f1) ((rd_T119 l1 x17_1).f2) ((rd_T119 l1 x17_1).f3) ((rd_T119 l1 x17_1).f4) ((rd_T119 l1 x17_1).f5) a3 a4 false _ A13.out).mono ?_); rintro e w26 ⟨rfl, hb⟩; have n0_ := Aside0.mk (Kd.R_below (by (with_reducible repeat (first | apply Kd.R_alloc | apply Kd.R_drewN | apply Kd.R_drew)); exact (Kd.R_mono (Kd.R_far (p := ⟨gb859, 5, none⟩) (Kd.R_far (p := ⟨gb859, 4, none⟩) (Kd.R_far (p := ⟨gb859, 3, none⟩) (Kd.R_far (p := ⟨gb859, 2, none⟩) (Kd.R_far (p := ⟨gb859, 1, none⟩) (Kd.R_far (p := ⟨gb859, 0, none⟩) (Kd.R_types HO_11.out BK859.out (by decide)) (fun _ hk => hk.2) (.int .i64 ((rd_T119 l1 x17_1).f0))) (fun _ hk => hk.2) (.int .i64 ((rd_T119 l1 x17_1).f1))) (fun _ hk => hk.2) (.int .i64 ((rd_T119 l1 x17_1).f2))) (fun _ hk => hk.2) (.int .i64 ((rd_T119 l1 x17_1).f3))) (fun _ hk => hk.2) (.int .i64 ((rd_T119 l1 x17_1).f4))) (fun _ hk => hk.2) (.int .i64 ((rd_T119 l1 x17_1).f5))) (fun _ h_ => h_.1))) hb); have n1_ := Aside0.mk (blk_below (g := gb859) (o := .cells #[.int .i64 ((rd_T119 l1 x17_1).f0), .int .i64 ((rd_T119 l1 x17_1).f1), .int .i64 ((rd_T119 l1 x17_1).f2), .int .i64 ((rd_T119 l1 x17_1).f3), .int .i64 ((rd_T119 l1 x17_1).f4), .int .i64 ((rd_T119 l1 x17_1).f5)] 119 (0, 0)) (by (with_reducible repeat (first | refine blk_drewN ?_ _ | refine blk_drew ?_ | refine blk_alloc ?_ _)); refine blk_put (cs := #[.int .i64 ((rd_T119 l1 x17_1).f0), .int .i64 ((rd_T119 l1 x17_1).f1), .int .i64 ((rd_T119 l1 x17_1).f2), .int .i64 ((rd_T119 l1 x17_1).f3), .int .i64 ((rd_T119 l1 x17_1).f4), .int .i64 0]) ?_ 5 _ rfl; (with_reducible repeat (first | refine blk_drewN ?_ _ | refine blk_drew ?_ | refine blk_alloc ?_ _)); refine blk_put (cs := #[.int .i64 ((rd_T119 l1 x17_1).f0), .int .i64 ((rd_T119 l1 x17_1).f1), .int .i64 ((rd_T119 l1 x17_1).f2), .int .i64 ((rd_T119 l1 x17_1).f3), .int .i64 0, .int .i64 0]) ?_ 4 _ rfl; (with_reducible repeat (first | refine blk_drewN ?_ _ | refine blk_drew ?_ | refine blk_alloc ?_ _)); refine blk_put (cs := #[.int .i64 ((rd_T119 l1 x17_1).f0), .int .i64 ((rd_T119 l1 x17_1).f1), .int .i64 ((rd_T119 l1 x17_1).f2), .int .i64 0, .int .i64 0, .int .i64 0]) ?_ 3 _ rfl; (with_reducible repeat (first | refine blk_drewN ?_ _ | refine blk_drew ?_ | refine blk_alloc ?_ _)); refine blk_put (cs := #[.int .i64 ((rd_T119 l1 x17_1).f0), .int .i64 ((rd_T119 l1 x17_1).f1), .int .i64 0, .int .i64 0, .int .i64 0, .int .i64 0]) ?_ 2 _ rfl; (with_reducible repeat (first | refine blk_drewN ?_ _ | refine blk_drew ?_ | refine blk_alloc ?_ _)); refine blk_put (cs := #[.int .i64 ((rd_T119 l1 x17_1).f0), .int .i64 0, .int .i64 0, .int .i64 0, .int .i64 0, .int .i64 0]) ?_ 1 _ rfl; (with_reducible repeat (first | refine blk_drewN ?_ _ | refine blk_drew ?_ | refine blk_alloc ?_ _)); refine blk_put (cs := #[.int .i64 0, .int .i64 0, .int .i64 0, .int .i64 0, .int .i64 0, .int .i64 0]) ?_ 0 _ rfl; (with_reducible repeat (first | refine blk_drewN ?_ _ | refine blk_drew ?_ | refine blk_alloc ?_ _)); exact BK859.out) hb); have n2_ := Aside0.mk (below_step (bb HB.out) hb); clear HO_11; clear BK859; clear HB; have HO_11 := n0_; have BK859 := n1_; have HB := n2_; clear n0_ n1_ n2_; (try clear hb); (try clear hb2); (try clear hk); (try clear hi)))
                  go_roundg k1
                  case measure => have := HK1.out; omega
                  case rel => exact ⟨(x11_1), (wrap64 (x17_1 + 1)), (by first | rfl | (simp; done) | (simp [*]; done)), H', ⟨by have := HK1.out; omega⟩, ⟨rr HO_11.out⟩, ⟨bb HB.out⟩⟩
              · rw [if_neg c12] at H
                have c12b0 : (((rd_T119 l1 x17_1).f1) == a2) = false := beq_eq_false_iff_ne.mpr c12
                have c12b1 : (((rd_T119 l1 x17_1).f1) != a2) = true := bne_iff_ne.mpr c12
                have H' := Aside0.mk H
                clear H
                have p858 : 0 ≤ (x17_1 : Int) := of_decide_eq_true (by first | (with_reducible assumption) | assumption)
                have q858 : x17_1 < (l1.length : Int) := of_decide_eq_true (by first | (with_reducible assumption) | assumption)
                obtain ⟨ad858, e858, hx858_0, hx858_1, hx858_2, hx858_3, hx858_4, hx858_5⟩ := at_T119 HR1.out x17_1 p858 q858
                cases e858
                replace hx858_0 := (HB.out.cell (World.block_lt_of_cell? w _ hx858_0)).trans hx858_0
                replace hx858_1 := (HB.out.cell (World.block_lt_of_cell? w _ hx858_1)).trans hx858_1
                replace hx858_2 := (HB.out.cell (World.block_lt_of_cell? w _ hx858_2)).trans hx858_2
                replace hx858_3 := (HB.out.cell (World.block_lt_of_cell? w _ hx858_3)).trans hx858_3
                replace hx858_4 := (HB.out.cell (World.block_lt_of_cell? w _ hx858_4)).trans hx858_4
                replace hx858_5 := (HB.out.cell (World.block_lt_of_cell? w _ hx858_5)).trans hx858_5
                replace p858 := eq_true p858
                replace q858 := eq_true q858
                go_wp2_with (first | ((with_reducible refine gate_dst (N := 13) rfl ?_); refine box_event ?hg (N := 13) ?hd (cs := #[.int .i64 0, .int .i64 0, .int .i64 0, .int .i64 0, .int .i64 0, .int .i64 0]) (t := 119) ?hr ?_; (case hd => rfl); (case hg => rfl); (case hr => first | (go_simp; done) | (go_simp; rfl)); intro gb859 hg w27 hbox hb; have n0_ := Aside0.mk (Kd.R_below (rr HO_11.out) hb); have n1_ := Aside0.mk (below_step (bb HB.out) hb); have n2_ := Aside0.mk (hbox); have n3_ := Aside0.mk ((by rw [hg]; exact (below_size (bb HB.out)) : w.heap.size ≤ gb859)); have n4_ := Aside0.mk ((by rw [hg]; exact (below_size (bb HB.out)) : w.heap.size ≤ gb859)); clear HO_11; clear HB; have HO_11 := n0_; have HB := n1_; have BK859 := n2_; have GW859 := n3_; have GE859 := n4_; clear n0_ n1_ n2_ n3_ n4_; clear hb hbox hg; have hcz28_0 := cz BK859.out 0 (.int .i64 0); have hcz28_1 := cz BK859.out 1 (.int .i64 0); have hcz28_2 := cz BK859.out 2 (.int .i64 0); have hcz28_3 := cz BK859.out 3 (.int .i64 0); have hcz28_4 := cz BK859.out 4 (.int .i64 0); have hcz28_5 := cz BK859.out 5 (.int .i64 0); have hfz28_0 := blk_frozen BK859.out 0; have hfz28_1 := blk_frozen BK859.out 1; have hfz28_2 := blk_frozen BK859.out 2; have hfz28_3 := blk_frozen BK859.out 3; have hfz28_4 := blk_frozen BK859.out 4; have hfz28_5 := blk_frozen BK859.out 5))
                go_roundg k1
                case measure => have := HK1.out; omega
                case rel => exact ⟨(x11_1), (wrap64 (x17_1 + 1)), (by first | rfl | (simp; done) | (simp [*]; done)), H', ⟨by have := HK1.out; omega⟩, ⟨by (with_reducible repeat (first | apply Kd.R_alloc | apply Kd.R_drewN | apply Kd.R_drew)); exact Kd.R_mono (Kd.R_far (p := ⟨gb859, 5, none⟩) (Kd.R_far (p := ⟨gb859, 4, none⟩) (Kd.R_far (p := ⟨gb859, 3, none⟩) (Kd.R_far (p := ⟨gb859, 2, none⟩) (Kd.R_far (p := ⟨gb859, 1, none⟩) (Kd.R_far (p := ⟨gb859, 0, none⟩) (Kd.R_types HO_11.out BK859.out (by decide)) (fun _ hk => hk.2) (.int .i64 ((rd_T119 l1 x17_1).f0))) (fun _ hk => hk.2) (.int .i64 ((rd_T119 l1 x17_1).f1))) (fun _ hk => hk.2) (.int .i64 ((rd_T119 l1 x17_1).f2))) (fun _ hk => hk.2) (.int .i64 ((rd_T119 l1 x17_1).f3))) (fun _ hk => hk.2) (.int .i64 ((rd_T119 l1 x17_1).f4))) (fun _ hk => hk.2) (.int .i64 ((rd_T119 l1 x17_1).f5))) (fun _ hk => trivial)⟩, ⟨bb HB.out⟩⟩
            · rw [if_neg c11] at H
              have c11b0 : (((rd_T119 l1 x17_1).f0) == 1) = false := beq_eq_false_iff_ne.mpr c11
              have c11b1 : (((rd_T119 l1 x17_1).f0) != 1) = true := bne_iff_ne.mpr c11
              have H' := Aside0.mk H
              clear H
              have p858 : 0 ≤ (x17_1 : Int) := of_decide_eq_true (by first | (with_reducible assumption) | assumption)
              have q858 : x17_1 < (l1.length : Int) := of_decide_eq_true (by first | (with_reducible assumption) | assumption)
              obtain ⟨ad858, e858, hx858_0, hx858_1, hx858_2, hx858_3, hx858_4, hx858_5⟩ := at_T119 HR1.out x17_1 p858 q858
              cases e858
              replace hx858_0 := (HB.out.cell (World.block_lt_of_cell? w _ hx858_0)).trans hx858_0
              replace hx858_1 := (HB.out.cell (World.block_lt_of_cell? w _ hx858_1)).trans hx858_1
              replace hx858_2 := (HB.out.cell (World.block_lt_of_cell? w _ hx858_2)).trans hx858_2
              replace hx858_3 := (HB.out.cell (World.block_lt_of_cell? w _ hx858_3)).trans hx858_3
              replace hx858_4 := (HB.out.cell (World.block_lt_of_cell? w _ hx858_4)).trans hx858_4
              replace hx858_5 := (HB.out.cell (World.block_lt_of_cell? w _ hx858_5)).trans hx858_5
              replace p858 := eq_true p858
              replace q858 := eq_true q858
              go_wp2_with (first | ((with_reducible refine gate_dst (N := 13) rfl ?_); refine box_event ?hg (N := 13) ?hd (cs := #[.int .i64 0, .int .i64 0, .int .i64 0, .int .i64 0, .int .i64 0, .int .i64 0]) (t := 119) ?hr ?_; (case hd => rfl); (case hg => rfl); (case hr => first | (go_simp; done) | (go_simp; rfl)); intro gb859 hg w29 hbox hb; have n0_ := Aside0.mk (Kd.R_below (rr HO_11.out) hb); have n1_ := Aside0.mk (below_step (bb HB.out) hb); have n2_ := Aside0.mk (hbox); have n3_ := Aside0.mk ((by rw [hg]; exact (below_size (bb HB.out)) : w.heap.size ≤ gb859)); have n4_ := Aside0.mk ((by rw [hg]; exact (below_size (bb HB.out)) : w.heap.size ≤ gb859)); clear HO_11; clear HB; have HO_11 := n0_; have HB := n1_; have BK859 := n2_; have GW859 := n3_; have GE859 := n4_; clear n0_ n1_ n2_ n3_ n4_; clear hb hbox hg; have hcz30_0 := cz BK859.out 0 (.int .i64 0); have hcz30_1 := cz BK859.out 1 (.int .i64 0); have hcz30_2 := cz BK859.out 2 (.int .i64 0); have hcz30_3 := cz BK859.out 3 (.int .i64 0); have hcz30_4 := cz BK859.out 4 (.int .i64 0); have hcz30_5 := cz BK859.out 5 (.int .i64 0); have hfz30_0 := blk_frozen BK859.out 0; have hfz30_1 := blk_frozen BK859.out 1; have hfz30_2 := blk_frozen BK859.out 2; have hfz30_3 := blk_frozen BK859.out 3; have hfz30_4 := blk_frozen BK859.out 4; have hfz30_5 := blk_frozen BK859.out 5))
              go_roundg k1
              case measure => have := HK1.out; omega
              case rel => exact ⟨(x11_1), (wrap64 (x17_1 + 1)), (by first | rfl | (simp; done) | (simp [*]; done)), H', ⟨by have := HK1.out; omega⟩, ⟨by (with_reducible repeat (first | apply Kd.R_alloc | apply Kd.R_drewN | apply Kd.R_drew)); exact Kd.R_mono (Kd.R_far (p := ⟨gb859, 5, none⟩) (Kd.R_far (p := ⟨gb859, 4, none⟩) (Kd.R_far (p := ⟨gb859, 3, none⟩) (Kd.R_far (p := ⟨gb859, 2, none⟩) (Kd.R_far (p := ⟨gb859, 1, none⟩) (Kd.R_far (p := ⟨gb859, 0, none⟩) (Kd.R_types HO_11.out BK859.out (by decide)) (fun _ hk => hk.2) (.int .i64 ((rd_T119 l1 x17_1).f0))) (fun _ hk => hk.2) (.int .i64 ((rd_T119 l1 x17_1).f1))) (fun _ hk => hk.2) (.int .i64 ((rd_T119 l1 x17_1).f2))) (fun _ hk => hk.2) (.int .i64 ((rd_T119 l1 x17_1).f3))) (fun _ hk => hk.2) (.int .i64 ((rd_T119 l1 x17_1).f4))) (fun _ hk => hk.2) (.int .i64 ((rd_T119 l1 x17_1).f5))) (fun _ hk => trivial)⟩, ⟨bb HB.out⟩⟩
          · rw [if_neg c10] at H
            exact absurd H (by simp)
        · rw [if_neg c9] at H
          exact absurd H (by simp)
      · rw [if_neg c8] at H
        have c8b0 : decide (x17_1 < (l1.length : Int)) = false := decide_eq_false c8
        clear c8
        replace H := Option.bind_eq_some_iff.mp H
        obtain ⟨t854, A310, H⟩ := H
        replace H : ((slices_Compact_int_int.f t854).bind fun t855 => (some t855)) = some r := H
        have A31 := Aside0.mk A310
        clear A310
        replace H := Option.bind_eq_some_iff.mp H
        obtain ⟨t855, A320, H⟩ := H
        replace H : (some t855) = some r := H
        have A32 := Aside0.mk A320
        clear A320
        obtain rfl := Option.some.inj H
        obtain ⟨Ao33, co33, eo33⟩ := Kd.R_slice HO_11.out
        subst eo33
        go_wp2_with (first | ((with_reducible refine gate_callee (f := 86) rfl ?_); refine gm (some 44) Try.func86 #[.slice Ao33 x11_1.length co33] ?_; (with_reducible refine (slices_Sort_int_int.calls (fun k_ => some k_ = (.slice Ao33 x11_1.length co33 : Value).ownBlock) (.slice Ao33 x11_1.length co33) x11_1 t854 w _ ?side1 ?side2 A31.out).mono ?_); (case side1 => repeat (first | (with_reducible first | exact HB.out | apply below_alloc | apply pw_below_drewN | apply below_drew1) | exact HB.out)); (case side2 => exact Kd.R_tight rfl HO_11.out); rintro e w34 ⟨rfl, hy0, hb, hkp⟩; refine ⟨_, rfl, ?_⟩; have n0_ := Aside0.mk (Kd.R_reok rfl hy0 (fun k_ e_ => HO_11.out.1 k_ e_)); have n1_ := Aside0.mk (hb); clear HO_11; clear HB; have HO_11 := n0_; have HB := n1_; clear n0_ n1_; (try clear hb); (try clear hkp); (try clear hy0)) | ((with_reducible refine gate_callee (f := 87) rfl ?_); refine gm (some 46) Try.func87 #[.slice Ao33 x11_1.length co33] ?_; (with_reducible refine (slices_Compact_int_int.calls (fun k_ => some k_ = (.slice Ao33 x11_1.length co33 : Value).ownBlock) (.slice Ao33 x11_1.length co33) t854 t855 w _ ?side1 ?side2 A32.out).mono ?_); (case side1 => repeat (first | (with_reducible first | exact HB.out | apply below_alloc | apply pw_below_drewN | apply below_drew1) | exact HB.out)); (case side2 => exact Kd.R_tight rfl HO_11.out); rintro e w35 ⟨v856, rfl, ho0, hb, hkp⟩; refine ⟨_, rfl, ?_⟩; have n0_ := Aside0.mk (Kd.R_mono (ok' := fun k_ => True) ho0 (fun k_ hk_ => trivial)); have n1_ := Aside0.mk (hb); clear HB; clear HO_11; have HO857 := n0_; have HB := n1_; clear n0_ n1_; (try clear hb); (try clear hkp); (try clear ho0)))
        go_ret
        exact ⟨_, by first | rfl | (simp [errW_none, errW_some] <;> rfl) | (simp [*, errW_none, errW_some] <;> rfl), rr HO857.out, bb HB.out⟩
def impl_HasRole.f (k : Nat) (l0 : List (S176)) (l1 : List (S119)) (a2 : Int) (a3 : Int) (a4 : Int) (a5 : Int) : Option (Bool) := (impl_RolesOf.f k l0 l1 a2 a4 a5).bind fun t867 => ((slices_Contains_int_int.f k t867 a3).bind fun t870 => (some t870))
set_option maxHeartbeats 8000000 in
set_option maxRecDepth 100000 in
theorem impl_HasRole.calls (k : Nat) (A0 : Option Addr) (c0 : Nat) (l0 : List (S176)) (A1 : Option Addr) (c1 : Nat) (l1 : List (S119)) (a2 : Int) (a3 : Int) (a4 : Int) (a5 : Int) (r : Bool) (w : World) (hr0 : Kd.C k176 w A0 l0.length l0) (hc0 : l0.length ≤ c0) (hr1 : Kd.C k119 w A1 l1.length l1) (hc1 : l1.length ≤ c1) (h : impl_HasRole.f k l0 l1 a2 a3 a4 a5 = some r) :
    Calls Try.prog 151 #[.slice A0 l0.length c0, .slice A1 l1.length c1, .int .i64 a2, .int .i64 a3, .int .i64 a4, .int .i64 a5] w fun e w' => e = .returned (.bool r) ∧ Below w.heap.size w w' := by
  have HR0 := Aside0.mk hr0
  have HC0 := Aside0.mk hc0
  clear hr0 hc0
  have HR1 := Aside0.mk hr1
  have HC1 := Aside0.mk hc1
  clear hr1 hc1
  have HB := Aside0.mk (Below.refl w.heap.size w)
  have H : ((impl_RolesOf.f k l0 l1 a2 a4 a5).bind fun t867 => ((slices_Contains_int_int.f k t867 a3).bind fun t870 => (some t870))) = some r := h
  clear h
  replace H := Option.bind_eq_some_iff.mp H
  obtain ⟨t867, A70, H⟩ := H
  replace H : ((slices_Contains_int_int.f k t867 a3).bind fun t870 => (some t870)) = some r := H
  have A7 := Aside0.mk A70
  clear A70
  replace H := Option.bind_eq_some_iff.mp H
  obtain ⟨t870, A80, H⟩ := H
  replace H : (some t870) = some r := H
  have A8 := Aside0.mk A80
  clear A80
  obtain rfl := Option.some.inj H
  go_enter Try.func151, Try.ntmps151
  go_wp2_with (first | ((with_reducible refine gate_callee (f := 206) rfl ?_); refine gm (some 18) Try.func206 #[.slice A0 l0.length c0, .slice A1 l1.length c1, .int .i64 a2, .int .i64 a4, .int .i64 a5] ?_; (with_reducible refine (impl_RolesOf.calls k _ _ l0 _ _ l1 a2 a4 a5 t867 _ ?side1 ?side2 ?side3 ?side4 A7.out).mono ?_); (case side1 => repeat (first | exact HR0.out | (with_reducible refine Kd.C_alloc ?_ _) | (with_reducible refine Kd.C_drewN ?_ _) | (with_reducible refine Kd.C_drew ?_))); (case side2 => exact HC0.out); (case side3 => repeat (first | exact HR1.out | (with_reducible refine Kd.C_alloc ?_ _) | (with_reducible refine Kd.C_drewN ?_ _) | (with_reducible refine Kd.C_drew ?_))); (case side4 => exact HC1.out); rintro e w9 ⟨v868, rfl, ho0, hb⟩; refine ⟨_, rfl, ?_⟩; have n0_ := Aside0.mk (Kd.R_lower ho0 (below_size (bb HB.out))); have n1_ := Aside0.mk (below_step (bb HB.out) hb); clear HB; have HO869 := n0_; have HB := n1_; clear n0_ n1_; (try clear hb); (try clear hb2); (try clear hk); (try clear hi); (try clear ho0); obtain ⟨Ao10, co10, eo10⟩ := Kd.R_slice HO869.out; subst eo10) | ((with_reducible refine gate_callee (f := 205) rfl ?_); refine gm (some 20) Try.func205 #[.slice Ao10 t867.length co10, .int .i64 a3] ?_; (with_reducible refine (slices_Contains_int_int.calls k _ _ t867 a3 t870 _ ?side1 ?side2 A8.out).mono ?_); (case side1 => repeat (first | exact (Kd.R_reads' HO869.out).2.2 | (with_reducible refine Kd.C_alloc ?_ _) | (with_reducible refine Kd.C_drewN ?_ _) | (with_reducible refine Kd.C_drew ?_))); (case side2 => exact (Kd.R_reads' HO869.out).2.1); rintro e w' ⟨rfl, ⟨nd, rfl⟩⟩; refine ⟨_, rfl, ?_⟩))
  go_ret
  exact ⟨by first | rfl | (simp [errW_none, errW_some] <;> rfl) | (simp [*, errW_none, errW_some] <;> rfl), bb HB.out⟩
end Go.Proofs.Ytbfochojhmggfaa.R
end
section
namespace Go.Proofs.Ytbfochojhmggfaa.Facts
open Go.Proofs.Ytbfochojhmggfaa.R
def inR (n a b : Int) : Bool := decide (a ≤ n ∧ n ≤ b)
def kindB (n k : Int) : Bool := decide (10 ≤ n ∧ n ≤ 49 ∧ Int.tdiv n 10 = k)
def claimB (k s v : Int) : Bool := if k = 1 then kindB s 1 && inR v 0 5 else if k = 2 then kindB s 1 && kindB v 2 else if k = 3 then kindB s 2 && inR v 0 3 else if k = 4 then kindB s 3 && inR v 0 3 else false
def factB (k s v i a u : Int) : Bool := claimB k s v && inR i 0 9 && inR a 0 10000 && inR u 0 10000 && decide (a ≤ u)
def holdsB (k s v i a u now age : Int) : Bool := factB k s v i a u && inR now 0 10000 && decide (a ≤ now ∧ now ≤ u) && decide (now - a ≤ age)
end Go.Proofs.Ytbfochojhmggfaa.Facts
end
section
namespace Go.Proofs.Ytbfochojhmggfaa.Reads
open Go.RowKit Go.Proofs.YtbfochojhmggfaaW.PrintWords
section
variable {H : Type} {enc : TypeId × Value → H} {P : Program} {w : World}
def Rd (enc : TypeId × Value → H) (P : Program) (w : World) (n : Nat) (t : TypeId) {α : Type} (d : Kd α) : Prop :=
  ∀ fuel, fuel ≤ n → ∀ cs x, DataW.trod enc P w 0 (fun _ => true) true fuel t cs = some x → ∃ v, d.K w v cs
theorem Rd.le {n m : Nat} {t : TypeId} {α : Type} {d : Kd α} (h : Rd enc P w n t d) (hm : m ≤ n) : Rd enc P w m t d := fun fuel hf => h fuel (Nat.le_trans hf hm)
theorem rd_int {t : TypeId} {k : IntKind} (ht : P.underlying t = some (.int k)) (n : Nat) : Rd enc P w n t (Kd.int k) := by
  intro fuel _ cs x h
  obtain ⟨v, rfl, _⟩ := DataW.trod_int ht h
  exact ⟨v, rfl⟩
theorem choose_list {α : Type} (n : Nat) (Q : Nat → α → Prop) (h : ∀ i, i < n → ∃ v, Q i v) : ∃ xs : List α, xs.length = n ∧ ∀ i v, xs[i]? = some v → Q i v := by
  induction n with
  | zero => exact ⟨[], rfl, fun i v hv => by simp at hv⟩
  | succ n ih =>
    obtain ⟨xs, hl, hx⟩ := ih (fun i hi => h i (by omega))
    obtain ⟨v, hv⟩ := h n (by omega)
    refine ⟨xs ++ [v], by simp [hl], fun i u hu => ?_⟩
    rcases Nat.lt_or_ge i xs.length with hi | hi
    · rw [List.getElem?_append_left hi] at hu
      exact hx i u hu
    · have : i = xs.length := by
        have := (List.getElem?_eq_some_iff.1 hu).1
        rw [List.length_append, List.length_singleton] at this
        omega
      subst this
      have : v = u := by simpa using hu
      subst this
      rw [hl]
      exact hv
theorem rd_slice {t e : TypeId} {α : Type} {d : Kd α} (ht : P.underlying t = some (.slice e)) (hc : P.cellsOf e = d.sz) {n : Nat} (hd : Rd enc P w n e d) : Rd enc P w (n + 1) t (Kd.slice e d) := by
  intro fuel hf cs x h
  rcases DataW.trod_slice ht h with ⟨rfl, _⟩ | ⟨a, len, cap, elems, rest, m, rfl, rfl, _, hb, hl, hm, hlen, hel, _, _⟩
  · exact ⟨[], none, 0, rfl, Nat.le_refl _, rfl, by simp, fun hp => absurd hp (by simp)⟩
  · have key : ∀ i, i < len → ∃ v, ∃ c, w.cells? 0 (a.add (i * d.sz)) d.sz = some c ∧ d.K w v c := by
      intro i hi
      have h1 := hel i hi
      rw [List.getElem?_eq_getElem (by omega)] at h1
      obtain ⟨c, hcc, htr⟩ := Option.bind_eq_some_iff.1 h1
      obtain ⟨v, hv⟩ := hd m (by omega) c _ htr
      rw [hc] at hcc
      exact ⟨v, c, hcc, hv⟩
    obtain ⟨xs, hxl, hxs⟩ := choose_list len _ key
    refine ⟨xs, some a, cap, by rw [hxl], by omega, rfl, ?_, fun _ => ⟨a, rfl, fun j p hj => ?_⟩⟩
    · simp only [maxLen] at hm
      omega
    · obtain ⟨c, hcc, hv⟩ := hxs j p hj
      refine ⟨c, d.K_len hv, hv, fun i u hu => ?_⟩
      have h2 := (World.cells?_some hcc).2.2 i
      have hi : i < d.sz := by
        have := (List.getElem?_eq_some_iff.1 hu).1
        rw [d.K_len hv] at this
        exact this
      rw [← add_add]
      rw [h2 hi]
      exact hu
theorem cut_one (cs : List Value) (o s : Nat) : cs.drop o = (cs.drop o).take s ++ cs.drop (o + s) := by rw [← List.drop_drop, List.take_append_drop]
theorem cut_last (cs : List Value) (o s : Nat) (h : cs.length = o + s) : (cs.drop o).take s = cs.drop o := List.take_of_length_le (by rw [List.length_drop]; omega)
theorem rd_field {n : Nat} {t : TypeId} {fs : Array Field} (ht : P.underlying t = some (.struct fs)) {fuel : Nat} (hf : fuel ≤ n + 1) {cs : List Value} {x : DataW H × List MemPlace}
    (h : DataW.trod enc P w 0 (fun _ => true) true fuel t cs = some x) :
    cs.length = P.cellsOf t ∧ ∀ (i : Nat) (f : Field), fs[i]? = some f → ∀ {α : Type} {d : Kd α}, Rd enc P w n f.type d → P.cellsOf f.type = d.sz → ∃ v, d.K w v ((cs.drop f.offset).take d.sz) := by
  obtain ⟨xs, m, rfl, _, hl, hlen, hx⟩ := DataW.trod_struct ht h
  refine ⟨hl, fun i f hi α d hd hs => ?_⟩
  have h1 := hx i f hi
  have hi' : i < xs.length := by rw [hlen]; exact (Array.getElem?_eq_some_iff.1 hi).1
  rw [List.getElem?_eq_getElem hi', hs] at h1
  exact hd m (by omega) _ _ h1
end
end Go.Proofs.Ytbfochojhmggfaa.Reads
end
section
namespace Go.Proofs.Ytbfochojhmggfaa.Opens
open Go.RowKit Go.Proofs.YtbfochojhmggfaaW.PrintWords Go.Proofs.Ytbfochojhmggfaa.Reads Go.Proofs.Ytbfochojhmggfaa.R
set_option linter.unusedVariables false
variable {H : Type} {enc : TypeId × Value → H} {w : World}
theorem rd_zero {P : Program} {t : TypeId} {α : Type} {d : Kd α} : Rd enc P w 0 t d := by
  intro fuel hf cs x h
  obtain rfl : fuel = 0 := by omega
  simp [DataW.trod] at h
theorem rd178 : ∀ n, Rd enc Try.prog w n 178 k178
  | 0 => rd_zero
  | n + 1 => by
    intro fuel hf cs x h
    obtain ⟨hl, hfs⟩ := rd_field Try.underlying178 hf h
    have hl' : cs.length = 2 := hl.trans (by kernel_rfl)
    obtain ⟨v0, h0⟩ := hfs 0 _ rfl (rd_int Try.underlying3 n) (by kernel_rfl)
    obtain ⟨v1, h1⟩ := hfs 1 _ rfl (rd_int Try.underlying3 n) (by kernel_rfl)
    exact ⟨⟨v0, v1⟩, ⟨(cs.drop 0).take 1, cs.drop (0 + 1), cut_one cs 0 1, h0, (by have e := cut_last cs 1 1 hl'; exact e ▸ h1)⟩⟩
theorem rd189 : ∀ n, Rd enc Try.prog w n 189 k189
  | 0 => rd_zero
  | n + 1 => by
    intro fuel hf cs x h
    obtain ⟨hl, hfs⟩ := rd_field Try.underlying189 hf h
    have hl' : cs.length = 6 := hl.trans (by kernel_rfl)
    obtain ⟨v0, h0⟩ := hfs 0 _ rfl (rd_int Try.underlying3 n) (by kernel_rfl)
    obtain ⟨v1, h1⟩ := hfs 1 _ rfl (rd_int Try.underlying3 n) (by kernel_rfl)
    obtain ⟨v2, h2⟩ := hfs 2 _ rfl (rd_int Try.underlying3 n) (by kernel_rfl)
    obtain ⟨v3, h3⟩ := hfs 3 _ rfl (rd_int Try.underlying3 n) (by kernel_rfl)
    obtain ⟨v4, h4⟩ := hfs 4 _ rfl (rd_int Try.underlying3 n) (by kernel_rfl)
    obtain ⟨v5, h5⟩ := hfs 5 _ rfl (rd_int Try.underlying3 n) (by kernel_rfl)
    exact ⟨⟨v0, v1, v2, v3, v4, v5⟩, ⟨(cs.drop 0).take 1, cs.drop (0 + 1), cut_one cs 0 1, h0, ⟨_, _, cut_one cs 1 1, h1, ⟨_, _, cut_one cs 2 1, h2, ⟨_, _, cut_one cs 3 1, h3, ⟨_, _, cut_one cs 4 1, h4, (by have e := cut_last cs 5 1 hl'; exact e ▸ h5)⟩⟩⟩⟩⟩⟩
theorem rdu100 : ∀ n, Rd enc Try.prog w n 100 (Kd.upto F100 4 [100] n)
  | 0 => rd_zero
  | n + 1 => by
    intro fuel hf cs x h
    obtain ⟨hl, hfs⟩ := rd_field Try.underlying100 hf h
    have hl' : cs.length = 4 := hl.trans (by kernel_rfl)
    obtain ⟨v0, h0⟩ := hfs 0 _ rfl (rd_int Try.underlying3 n) (by kernel_rfl)
    obtain ⟨v1, h1⟩ := hfs 1 _ rfl (rd_int Try.underlying3 n) (by kernel_rfl)
    obtain ⟨v2, h2⟩ := hfs 2 _ rfl (rd_int Try.underlying3 n) (by kernel_rfl)
    obtain ⟨v3, h3⟩ := hfs 3 _ rfl ((rd_slice Try.underlying98 (by rw [sz100]; kernel_rfl) (rdu100 n)).le (by omega)) (by kernel_rfl)
    exact ⟨⟨v0, v1, v2, v3⟩, ⟨(cs.drop 0).take 1, cs.drop (0 + 1), cut_one cs 0 1, h0, ⟨_, _, cut_one cs 1 1, h1, ⟨_, _, cut_one cs 2 1, h2, (by have e := cut_last cs 3 1 hl'; exact e ▸ h3)⟩⟩⟩⟩
theorem rd100 (n : Nat) : Rd enc Try.prog w n 100 k100 := fun fuel hf cs x h => (rdu100 n fuel hf cs x h).elim fun v hv => ⟨v, n, hv⟩
structure S102 where
  f0 : Int
  f1 : Int
  f2 : Int
  f3 : Int
  f4 : Int
  f5 : Int
def k102 : Kd S102 := Kd.iso (Kd.pair (Kd.int .i64) (Kd.pair (Kd.int .i64) (Kd.pair (Kd.int .i64) (Kd.pair (Kd.int .i64) (Kd.pair (Kd.int .i64) (Kd.int .i64)))))) (fun x : S102 => (x.f0, x.f1, x.f2, x.f3, x.f4, x.f5))
theorem k102_open {w : World} {x : S102} {cs : List Value} (h : k102.K w x cs) : cs = [.int .i64 x.f0, .int .i64 x.f1, .int .i64 x.f2, .int .i64 x.f3, .int .i64 x.f4, .int .i64 x.f5] := by
  obtain ⟨_, _, rfl, rfl, ⟨_, _, rfl, rfl, ⟨_, _, rfl, rfl, ⟨_, _, rfl, rfl, ⟨_, _, rfl, rfl, rfl⟩⟩⟩⟩⟩ := h
  rfl
theorem rd102 : ∀ n, Rd enc Try.prog w n 102 k102
  | 0 => rd_zero
  | n + 1 => by
    intro fuel hf cs x h
    obtain ⟨hl, hfs⟩ := rd_field Try.underlying102 hf h
    have hl' : cs.length = 6 := hl.trans (by kernel_rfl)
    obtain ⟨v0, h0⟩ := hfs 0 _ rfl (rd_int Try.underlying3 n) (by kernel_rfl)
    obtain ⟨v1, h1⟩ := hfs 1 _ rfl (rd_int Try.underlying3 n) (by kernel_rfl)
    obtain ⟨v2, h2⟩ := hfs 2 _ rfl (rd_int Try.underlying3 n) (by kernel_rfl)
    obtain ⟨v3, h3⟩ := hfs 3 _ rfl (rd_int Try.underlying3 n) (by kernel_rfl)
    obtain ⟨v4, h4⟩ := hfs 4 _ rfl (rd_int Try.underlying3 n) (by kernel_rfl)
    obtain ⟨v5, h5⟩ := hfs 5 _ rfl (rd_int Try.underlying3 n) (by kernel_rfl)
    exact ⟨⟨v0, v1, v2, v3, v4, v5⟩, ⟨(cs.drop 0).take 1, cs.drop (0 + 1), cut_one cs 0 1, h0, ⟨_, _, cut_one cs 1 1, h1, ⟨_, _, cut_one cs 2 1, h2, ⟨_, _, cut_one cs 3 1, h3, ⟨_, _, cut_one cs 4 1, h4, (by have e := cut_last cs 5 1 hl'; exact e ▸ h5)⟩⟩⟩⟩⟩⟩
end Go.Proofs.Ytbfochojhmggfaa.Opens
end
section
namespace Go.Proofs.Ytbfochojhmggfaa.Base
open Go.RowKit Go.Proofs.YtbfochojhmggfaaW.PrintWords
theorem Ev.if_pos {α : Type} {c : Prop} [Decidable c] {A B : Nat → Option α} {r : α} (hc : c) (h : Ev A r) : Ev (fun k => if c then A k else B k) r := Ev.congr (fun _ => by rw [_root_.if_pos hc]) h
theorem Ev.if_neg {α : Type} {c : Prop} [Decidable c] {A B : Nat → Option α} {r : α} (hc : ¬ c) (h : Ev B r) : Ev (fun k => if c then A k else B k) r := Ev.congr (fun _ => by rw [_root_.if_neg hc]) h
theorem Ev.ite {α : Type} {c : Prop} [Decidable c] {A B : Nat → Option α} {r : α} (h1 : c → Ev A r) (h2 : ¬ c → Ev B r) : Ev (fun k => if c then A k else B k) r := by
  by_cases hc : c
  · exact Ev.if_pos hc (h1 hc)
  · exact Ev.if_neg hc (h2 hc)
theorem Ev.val {α : Type} {r r' : α} (h : r = r') : Ev (fun _ => some r) r' := ⟨0, fun _ _ => by rw [h]⟩
theorem Ev.call {α β : Type} {g : Option α} {f : Nat → α → Option β} {a : α} {r : β} (h : g = some a) (k : Ev (fun n => f n a) r) : Ev (fun n => g.bind (f n)) r := Ev.congr (fun _ => by rw [h]; rfl) k
theorem Ev.to {α : Type} {g : Nat → Option α} {r r' : α} (h : Ev g r) (e : r = r') : Ev g r' := e ▸ h
theorem Ev.shift {α : Type} {g : Nat → Option α} {r : α} (h : Ev (fun k => g (k + 1)) r) : Ev g r := Ev.step (fun _ => rfl) h
theorem down {P : Nat → Prop} {n : Nat} (last : P n) (step : ∀ i, i < n → P (i + 1) → P i) : ∀ i, i ≤ n → P i := by
  intro i hi
  obtain ⟨d, rfl⟩ : ∃ d, n = i + d := ⟨n - i, by omega⟩
  induction d generalizing i with
  | zero => exact last
  | succ d ih => exact step i (by omega) (ih (i + 1) (by rw [show i + 1 + d = i + (d + 1) by omega]; exact last) (fun j hj => step j (by omega)) (by omega))
theorem wrap_succ {i : Nat} (h : i < 9223372036854775807) : wrap64 ((i : Int) + 1) = ((i + 1 : Nat) : Int) := by
  unfold wrap64
  omega
theorem wrap_id {i : Int} (h : -9223372036854775808 ≤ i) (h' : i ≤ 9223372036854775807) : wrap64 i = i := by
  unfold wrap64
  omega
theorem rd_at (xs : List Int) {i : Nat} (h : i < xs.length) : rd xs (i : Int) = xs[i] := by
  unfold rd
  rw [Int.toNat_natCast, List.getD_eq_getElem?_getD, List.getElem?_eq_getElem h]
  rfl
theorem getD_at {α : Type} (xs : List α) (d : α) {i : Nat} (h : i < xs.length) : xs.getD ((i : Int)).toNat d = xs[i] := by
  rw [Int.toNat_natCast, List.getD_eq_getElem?_getD, List.getElem?_eq_getElem h]
  rfl
theorem fill_set {α β : Type} (f : α → β) (z : β) (l : List α) {i : Nat} (h : i < l.length) :
    ((l.take i).map f ++ List.replicate (l.length - i) z).set i (f l[i]) = (l.take (i + 1)).map f ++ List.replicate (l.length - (i + 1)) z := by
  have hl : ((l.take i).map f).length = i := by simp; omega
  rw [List.set_append_right _ _ (by omega), hl, Nat.sub_self, List.take_succ_eq_append_getElem h, List.map_append, List.append_assoc]
  congr 1
  rw [show l.length - i = (l.length - (i + 1)) + 1 by omega, List.replicate_succ]
  rfl
theorem fill_length {α β : Type} (f : α → β) (z : β) (l : List α) {i : Nat} (h : i ≤ l.length) : ((l.take i).map f ++ List.replicate (l.length - i) z).length = l.length := by simp; omega
theorem fill_done {α β : Type} (f : α → β) (z : β) (l : List α) : (l.take l.length).map f ++ List.replicate (l.length - l.length) z = l.map f := by simp
theorem fill_none {α β : Type} (f : α → β) (z : β) (l : List α) : (l.take 0).map f ++ List.replicate (l.length - 0) z = List.replicate l.length z := by simp
end Go.Proofs.Ytbfochojhmggfaa.Base
end
section
namespace Go.Proofs.Ytbfochojhmggfaa.Roles
open Go.Proofs.Ytbfochojhmggfaa.R
set_option linter.unusedVariables false
def inO (o : List Bool) (b : Int) : Prop := (0 ≤ b ∧ b ≤ 5) ∧ o.getD b.toNat false = true
instance (o : List Bool) (b : Int) : Decidable (inO o b) := inferInstanceAs (Decidable (_ ∧ _))
inductive Rch (l : List P) (role : Int) : Int → Prop
  | one (x : P) : x ∈ l → x.f0 = role → 0 ≤ x.f1 ∧ x.f1 ≤ 5 → Rch l role x.f1
  | more (x : P) : x ∈ l → Rch l role x.f0 → 0 ≤ x.f1 ∧ x.f1 ≤ 5 → Rch l role x.f1
theorem inO_set {o : List Bool} (ho : o.length = 6) {j : Int} (hj : 0 ≤ j ∧ j ≤ 5) (b : Int) : inO (o.set j.toNat true) b ↔ b = j ∨ inO o b := by
  unfold inO
  constructor
  · rintro ⟨hb, h⟩
    by_cases e : b = j
    · exact .inl e
    · refine .inr ⟨hb, ?_⟩
      rw [List.getD_eq_getElem?_getD, List.getElem?_set_ne (by omega)] at h
      rwa [List.getD_eq_getElem?_getD]
  · rintro (rfl | ⟨hb, h⟩)
    · refine ⟨hj, ?_⟩
      rw [List.getD_eq_getElem?_getD, List.getElem?_set_self (by omega)]
      rfl
    · refine ⟨hb, ?_⟩
      rw [List.getD_eq_getElem?_getD, List.getElem?_set]
      split
      · split <;> first | rfl | omega
      · rwa [List.getD_eq_getElem?_getD] at h
theorem not_inO {o : List Bool} {b : Int} (hb : 0 ≤ b ∧ b ≤ 5) : ¬ inO o b ↔ o.getD b.toNat false = false := by
  unfold inO
  simp [hb]
theorem step_cases {a : Int} {o : List Bool} {t : List Int} {x : P} (ho : o.length = 6) :
    ((x.f0 = a ∧ (0 ≤ x.f1 ∧ x.f1 ≤ 5) ∧ ¬ inO o x.f1) ∧ step a (o, t) x = (o.set x.f1.toNat true, t ++ [x.f1])) ∨ (¬ (x.f0 = a ∧ (0 ≤ x.f1 ∧ x.f1 ≤ 5) ∧ ¬ inO o x.f1) ∧ step a (o, t) x = (o, t)) := by
  by_cases h : x.f0 = a ∧ (0 ≤ x.f1 ∧ x.f1 ≤ 5) ∧ ¬ inO o x.f1
  · refine .inl ⟨h, ?_⟩
    have h3 := (not_inO h.2.1).1 h.2.2
    have : hit a o x = true := by unfold hit; rw [h3]; simp [h.1, h.2.1]
    simp only [step, this, if_true]
  · refine .inr ⟨h, ?_⟩
    have : hit a o x = false := by
      unfold hit
      by_cases h1 : x.f0 = a
      · by_cases h2 : 0 ≤ x.f1 ∧ x.f1 ≤ 5
        · have h3 : inO o x.f1 := Classical.byContradiction fun hn => h ⟨h1, h2, hn⟩
          rw [h3.2]; simp
        · simp [h2]
      · simp [h1]
    simp only [step, this]
    rfl
theorem fold_props {a : Int} : ∀ (l' : List P) (o : List Bool) (t : List Int), o.length = 6 →
    (∀ b, inO o b → inO (l'.foldl (step a) (o, t)).1 b) ∧ (∀ b, b ∈ t → b ∈ (l'.foldl (step a) (o, t)).2) ∧ (∀ b, inO (l'.foldl (step a) (o, t)).1 b → inO o b ∨ b ∈ (l'.foldl (step a) (o, t)).2) ∧
    (∀ x ∈ l', x.f0 = a → (0 ≤ x.f1 ∧ x.f1 ≤ 5) → inO (l'.foldl (step a) (o, t)).1 x.f1) ∧ (∀ b, inO (l'.foldl (step a) (o, t)).1 b → inO o b ∨ ∃ x ∈ l', x.f0 = a ∧ (0 ≤ x.f1 ∧ x.f1 ≤ 5) ∧ x.f1 = b)
  | [], o, t, ho => ⟨fun _ h => h, fun _ h => h, fun _ h => .inl h, (fun x hx => absurd hx (by simp)), fun _ h => .inl h⟩
  | x :: l', o, t, ho => by
    rw [List.foldl_cons]
    rcases step_cases (a := a) (t := t) (x := x) ho with ⟨⟨h1, h2, h3⟩, e⟩ | ⟨hn, e⟩
    · rw [e]
      have hl : (o.set x.f1.toNat true).length = 6 := by simpa using ho
      obtain ⟨p1, p2, p3, p4, p5⟩ := fold_props (a := a) l' (o.set x.f1.toNat true) (t ++ [x.f1]) hl
      refine ⟨fun b hb => p1 b ((inO_set ho h2 b).2 (.inr hb)), fun b hb => p2 b (by simp [hb]), fun b hb => ?_, fun y hy hya hyr => ?_, fun b hb => ?_⟩
      · rcases p3 b hb with h | h
        · rcases (inO_set ho h2 b).1 h with rfl | h
          · exact .inr (p2 _ (by simp))
          · exact .inl h
        · exact .inr h
      · rcases List.mem_cons.1 hy with rfl | hy
        · exact p1 _ ((inO_set ho h2 _).2 (.inl rfl))
        · exact p4 y hy hya hyr
      · rcases p5 b hb with h | ⟨y, hy, h⟩
        · rcases (inO_set ho h2 b).1 h with rfl | h
          · exact .inr ⟨x, by simp, h1, h2, rfl⟩
          · exact .inl h
        · exact .inr ⟨y, by simp [hy], h⟩
    · rw [e]
      obtain ⟨p1, p2, p3, p4, p5⟩ := fold_props (a := a) l' o t ho
      refine ⟨p1, p2, p3, fun y hy hya hyr => ?_, fun b hb => ?_⟩
      · rcases List.mem_cons.1 hy with rfl | hy
        · exact p1 _ (Classical.byContradiction fun hc => hn ⟨hya, hyr, hc⟩)
        · exact p4 y hy hya hyr
      · rcases p5 b hb with h | ⟨y, hy, h⟩
        · exact .inl h
        · exact .inr ⟨y, by simp [hy], h⟩
theorem bfs_props (l : List P) (role : Int) : ∀ (n : Nat) (o : List Bool) (t : List Int), o.length = 6 → mu o t ≤ n →
    (∀ x ∈ l, (0 ≤ x.f1 ∧ x.f1 ≤ 5) → (x.f0 = role ∨ inO o x.f0) → inO o x.f1 ∨ x.f0 ∈ t) → (∀ b, inO o b → Rch l role b) → (∀ b ∈ t, b = role ∨ inO o b) →
    (∀ x ∈ l, (0 ≤ x.f1 ∧ x.f1 ≤ 5) → (x.f0 = role ∨ inO (bfs l n o t) x.f0) → inO (bfs l n o t) x.f1) ∧ (∀ b, inO (bfs l n o t) b → Rch l role b)
  | 0, o, t, ho, hm, hi, hs, ht => by
    have : t = [] := List.eq_nil_of_length_eq_zero (by unfold mu at hm; omega)
    subst this
    exact ⟨fun x hx hr h => (hi x hx hr h).resolve_right (by simp), hs⟩
  | n + 1, o, [], ho, hm, hi, hs, ht => ⟨fun x hx hr h => (hi x hx hr h).resolve_right (by simp), hs⟩
  | n + 1, o, a :: t, ho, hm, hi, hs, ht => by
    obtain ⟨p1, p2, p3, p4, p5⟩ := fold_props (a := a) l o t ho
    have hmu := fold_mu (a := a) l (s := (o, t)) ho
    have hlen := fold_len (a := a) l (s := (o, t)) ho
    rw [bfs]
    have p6 : ∀ (l' : List P) (o : List Bool) (t : List Int), o.length = 6 → ∀ b ∈ (l'.foldl (step a) (o, t)).2, b ∈ t ∨ inO (l'.foldl (step a) (o, t)).1 b := by
      intro l'
      induction l' with
      | nil => intro o t _ b hb; exact .inl hb
      | cons x l' ih =>
        intro o t ho b hb
        rw [List.foldl_cons] at hb ⊢
        rcases step_cases (a := a) (t := t) (x := x) ho with ⟨⟨h1, h2, h3⟩, e⟩ | ⟨hn, e⟩
        · rw [e] at hb ⊢
          have hl : (o.set x.f1.toNat true).length = 6 := by simpa using ho
          rcases ih _ _ hl b hb with h | h
          · rcases List.mem_append.1 h with h | h
            · exact .inl h
            · rw [List.mem_singleton] at h
              subst h
              exact .inr ((fold_props (a := a) l' _ _ hl).1 _ ((inO_set ho h2 _).2 (.inl rfl)))
          · exact .inr h
        · rw [e] at hb ⊢
          exact ih o t ho b hb
    refine bfs_props l role n _ _ hlen (by simp only [mu, List.length_cons] at hm hmu ⊢; omega) ?_ ?_ ?_
    · intro x hx hr hxr
      by_cases hxa : x.f0 = a
      · exact .inl (p4 x hx hxa hr)
      · have h2 : (x.f0 = role ∨ inO o x.f0) ∨ x.f0 ∈ (l.foldl (step a) (o, t)).2 := by
          rcases hxr with h | h
          · exact .inl (.inl h)
          · rcases p3 _ h with h | h
            · exact .inl (.inr h)
            · exact .inr h
        rcases h2 with h2 | h2
        · rcases hi x hx hr h2 with h | h
          · exact .inl (p1 _ h)
          · rcases List.mem_cons.1 h with h | h
            · exact absurd h hxa
            · exact .inr (p2 _ h)
        · exact .inr h2
    · intro b hb
      rcases p5 b hb with h | ⟨x, hx, hxa, hr, rfl⟩
      · exact hs b h
      · rcases ht a (by simp) with h | h
        · exact .one x hx (hxa.trans h) hr
        · exact .more x hx (hxa ▸ hs a h) hr
    · intro b hb
      rcases p6 l o t ho b hb with h | h
      · rcases ht b (by simp [h]) with h | h
        · exact .inl h
        · exact .inr (p1 _ h)
      · exact .inr h
theorem reached_iff (l : List P) (role b : Int) : inO (reached l role) b ↔ Rch l role b := by
  have hn : ∀ b, ¬ inO none6 b := by
    rintro b ⟨hb, h⟩
    have : b.toNat = 0 ∨ b.toNat = 1 ∨ b.toNat = 2 ∨ b.toNat = 3 ∨ b.toNat = 4 ∨ b.toNat = 5 := by omega
    rcases this with e | e | e | e | e | e <;> rw [e] at h <;> simp [none6] at h
  obtain ⟨h1, h2⟩ := bfs_props l role 13 none6 [role] rfl (by simp [mu, none6]) (fun x hx hr h => .inr (h.elim (fun h => by simp [h]) (fun h => absurd h (hn _)))) (fun b h => absurd h (hn b)) (fun b hb => .inl (by simpa using hb))
  refine ⟨h2 b, fun h => ?_⟩
  induction h with
  | one x hx e hr => exact h1 x hx hr (.inl e)
  | more x hx _ hr ih => exact h1 x hx hr (.inr ih)
end Go.Proofs.Ytbfochojhmggfaa.Roles
end
section
set_option linter.unusedVariables false
namespace Go.Proofs.Ytbfochojhmggfaa.Trees
open Go.Proofs.Ytbfochojhmggfaa.R
theorem tree_ind {P : S109 → Prop} (h : ∀ a b c l, (∀ y ∈ l, P y) → P ⟨a, b, c, l⟩) : ∀ x, P x
  | ⟨a, b, c, l⟩ => h a b c l (fun y hy => tree_ind h y)
termination_by x => SizeOf.sizeOf x
decreasing_by
  simp_wf
  have := List.sizeOf_lt_of_mem hy
  omega
end Go.Proofs.Ytbfochojhmggfaa.Trees
end
