import Derived.Test.YtbfochojhmggfaaPkLeafHolds2
import Derived.ArgAppend
import Derived.Below
import Derived.BigQuiet
import Derived.Deep.AppendLies
import Derived.Deep.CutBlock
import Derived.Deep.DeepCutAuto
import Derived.Deep.Draws
import Derived.Deep.LoopGhost
import Derived.Deep.OwnRows
import Derived.Deep.QuietTactic
import Derived.Deep.RegionHeld3
import Derived.Ground.Names2Prog
import Derived.KernelRfl
import Derived.Laws.BitsLemmas
import Derived.Laws.BytesArg
import Derived.Laws.IdiomCopy
import Derived.Laws.MakeOwn
import Derived.Laws.OwnMore
import Derived.Laws.Rows
import Derived.Laws.Slices
import Derived.Laws.StructEq
import Derived.Lib.AppendStr
import Derived.Lib.ConvBytes
import Derived.Lib.OwnBridge
import Derived.Maps.AppendAt
import Derived.OrdersHeld
import Derived.OwnWalk
import Derived.RowKit
import Derived.RowKit3
import Derived.Shelf.Slices.Cells
import Derived.Shelf.Slices.CompactI
import Derived.Shelf.Slices.In.SortNone
import Derived.Shelf.Slices.SearchI
import Derived.Shelf.Slices.Turned
import Derived.Shelf.Small.Bits
import Derived.Shelf.Small.Wraps
import Derived.Shelf.Sort.Plain
import Derived.Shelf.Strconv.Itoa0
import Derived.Sort.OwnSortedInts
import Derived.Tactics
import Derived.Test.YtbfochojhmggfaaProg
import Derived.WalkKit
import Derived.WideLaws
section
namespace Go.Proofs.Ytbfochojhmggfaa.R
open Go.RowKit Go.Proofs.YtbfochojhmggfaaW.PrintWords Go.Proofs.YtbfochojhmggfaaW.PrintLast Go.Proofs.YtbfochojhmggfaaW.PrintMore
attribute [local go_sem] max2_int min2_int max_two min_two max_three min_three max_four min_four
set_option linter.unusedVariables false
set_option linter.unusedSimpArgs false
def spec_IsFact.f (a0_0 : Int) (a0_1 : Int) (a0_2 : Int) (a0_3 : Int) (a0_4 : Int) (a0_5 : Int) : Option (Bool) := if a0_0 = 1 then ((spec_HasKind.f a0_1 1).bind fun t711 => (if t711 = true then ((spec_l1In.f a0_2 0 5).bind fun t712 => (if t712 = true then ((spec_l1In.f a0_3 0 9).bind fun t713 => (if t713 = true then ((spec_IsTime.f a0_4).bind fun t714 => (if t714 = true then ((spec_IsTime.f a0_5).bind fun t715 => (if t715 = true then (some (decide (a0_4 ≤ a0_5))) else (some false))) else (some false))) else (some false))) else (some false))) else (some false))) else (if a0_0 = 2 then ((spec_HasKind.f a0_1 1).bind fun t716 => (if t716 = true then ((spec_HasKind.f a0_2 2).bind fun t717 => (if t717 = true then ((spec_l1In.f a0_3 0 9).bind fun t718 => (if t718 = true then ((spec_IsTime.f a0_4).bind fun t719 => (if t719 = true then ((spec_IsTime.f a0_5).bind fun t720 => (if t720 = true then (some (decide (a0_4 ≤ a0_5))) else (some false))) else (some false))) else (some false))) else (some false))) else (some false))) else (if a0_0 = 3 then ((spec_HasKind.f a0_1 2).bind fun t721 => (if t721 = true then ((spec_l1In.f a0_2 0 3).bind fun t722 => (if t722 = true then ((spec_l1In.f a0_3 0 9).bind fun t723 => (if t723 = true then ((spec_IsTime.f a0_4).bind fun t724 => (if t724 = true then ((spec_IsTime.f a0_5).bind fun t725 => (if t725 = true then (some (decide (a0_4 ≤ a0_5))) else (some false))) else (some false))) else (some false))) else (some false))) else (some false))) else (if a0_0 = 4 then ((spec_HasKind.f a0_1 3).bind fun t726 => (if t726 = true then ((spec_l1In.f a0_2 0 3).bind fun t727 => (if t727 = true then ((spec_l1In.f a0_3 0 9).bind fun t728 => (if t728 = true then ((spec_IsTime.f a0_4).bind fun t729 => (if t729 = true then ((spec_IsTime.f a0_5).bind fun t730 => (if t730 = true then (some (decide (a0_4 ≤ a0_5))) else (some false))) else (some false))) else (some false))) else (some false))) else (some false))) else (some false))))
set_option maxHeartbeats 8000000 in
set_option maxRecDepth 100000 in
theorem spec_IsFact.calls (a0_0 : Int) (a0_1 : Int) (a0_2 : Int) (a0_3 : Int) (a0_4 : Int) (a0_5 : Int) (r : Bool) (w : World) (h : spec_IsFact.f a0_0 a0_1 a0_2 a0_3 a0_4 a0_5 = some r) :
    Calls Try.prog 249 #[.agg #[.int .i64 a0_0, .int .i64 a0_1, .int .i64 a0_2, .int .i64 a0_3, .int .i64 a0_4, .int .i64 a0_5]] w fun e w' => e = .returned (.bool r) ∧ Below w.heap.size w w' := by
  have hu119 := Try.underlying119
  have HB := Aside0.mk (Below.refl w.heap.size w)
  have H : (if a0_0 = 1 then ((spec_HasKind.f a0_1 1).bind fun t711 => (if t711 = true then ((spec_l1In.f a0_2 0 5).bind fun t712 => (if t712 = true then ((spec_l1In.f a0_3 0 9).bind fun t713 => (if t713 = true then ((spec_IsTime.f a0_4).bind fun t714 => (if t714 = true then ((spec_IsTime.f a0_5).bind fun t715 => (if t715 = true then (some (decide (a0_4 ≤ a0_5))) else (some false))) else (some false))) else (some false))) else (some false))) else (some false))) else (if a0_0 = 2 then ((spec_HasKind.f a0_1 1).bind fun t716 => (if t716 = true then ((spec_HasKind.f a0_2 2).bind fun t717 => (if t717 = true then ((spec_l1In.f a0_3 0 9).bind fun t718 => (if t718 = true then ((spec_IsTime.f a0_4).bind fun t719 => (if t719 = true then ((spec_IsTime.f a0_5).bind fun t720 => (if t720 = true then (some (decide (a0_4 ≤ a0_5))) else (some false))) else (some false))) else (some false))) else (some false))) else (some false))) else (if a0_0 = 3 then ((spec_HasKind.f a0_1 2).bind fun t721 => (if t721 = true then ((spec_l1In.f a0_2 0 3).bind fun t722 => (if t722 = true then ((spec_l1In.f a0_3 0 9).bind fun t723 => (if t723 = true then ((spec_IsTime.f a0_4).bind fun t724 => (if t724 = true then ((spec_IsTime.f a0_5).bind fun t725 => (if t725 = true then (some (decide (a0_4 ≤ a0_5))) else (some false))) else (some false))) else (some false))) else (some false))) else (some false))) else (if a0_0 = 4 then ((spec_HasKind.f a0_1 3).bind fun t726 => (if t726 = true then ((spec_l1In.f a0_2 0 3).bind fun t727 => (if t727 = true then ((spec_l1In.f a0_3 0 9).bind fun t728 => (if t728 = true then ((spec_IsTime.f a0_4).bind fun t729 => (if t729 = true then ((spec_IsTime.f a0_5).bind fun t730 => (if t730 = true then (some (decide (a0_4 ≤ a0_5))) else (some false))) else (some false))) else (some false))) else (some false))) else (some false))) else (some false))))) = some r := h
  clear h
  by_cases c2 : a0_0 = 1
  · rw [if_pos c2] at H
    have c2b0 : (a0_0 == 1) = true := beq_iff_eq.mpr c2
    have c2b1 : (a0_0 != 1) = false := bne_eq_false_iff_eq.mpr c2
    clear c2
    replace H := Option.bind_eq_some_iff.mp H
    obtain ⟨t711, A30, H⟩ := H
    replace H : (if t711 = true then ((spec_l1In.f a0_2 0 5).bind fun t712 => (if t712 = true then ((spec_l1In.f a0_3 0 9).bind fun t713 => (if t713 = true then ((spec_IsTime.f a0_4).bind fun t714 => (if t714 = true then ((spec_IsTime.f a0_5).bind fun t715 => (if t715 = true then (some (decide (a0_4 ≤ a0_5))) else (some false))) else (some false))) else (some false))) else (some false))) else (some false)) = some r := H
    have A3 := Aside0.mk A30
    clear A30
    by_cases c4 : t711 = true
    · subst c4
      have H1 : ((spec_l1In.f a0_2 0 5).bind fun t712 => (if t712 = true then ((spec_l1In.f a0_3 0 9).bind fun t713 => (if t713 = true then ((spec_IsTime.f a0_4).bind fun t714 => (if t714 = true then ((spec_IsTime.f a0_5).bind fun t715 => (if t715 = true then (some (decide (a0_4 ≤ a0_5))) else (some false))) else (some false))) else (some false))) else (some false))) = some r := by rw [if_pos rfl] at H; exact H
      clear H
      have H := H1
      clear H1
      replace H := Option.bind_eq_some_iff.mp H
      obtain ⟨t712, A50, H⟩ := H
      replace H : (if t712 = true then ((spec_l1In.f a0_3 0 9).bind fun t713 => (if t713 = true then ((spec_IsTime.f a0_4).bind fun t714 => (if t714 = true then ((spec_IsTime.f a0_5).bind fun t715 => (if t715 = true then (some (decide (a0_4 ≤ a0_5))) else (some false))) else (some false))) else (some false))) else (some false)) = some r := H
      have A5 := Aside0.mk A50
      clear A50
      by_cases c6 : t712 = true
      · subst c6
        have H1 : ((spec_l1In.f a0_3 0 9).bind fun t713 => (if t713 = true then ((spec_IsTime.f a0_4).bind fun t714 => (if t714 = true then ((spec_IsTime.f a0_5).bind fun t715 => (if t715 = true then (some (decide (a0_4 ≤ a0_5))) else (some false))) else (some false))) else (some false))) = some r := by rw [if_pos rfl] at H; exact H
        clear H
        have H := H1
        clear H1
        replace H := Option.bind_eq_some_iff.mp H
        obtain ⟨t713, A70, H⟩ := H
        replace H : (if t713 = true then ((spec_IsTime.f a0_4).bind fun t714 => (if t714 = true then ((spec_IsTime.f a0_5).bind fun t715 => (if t715 = true then (some (decide (a0_4 ≤ a0_5))) else (some false))) else (some false))) else (some false)) = some r := H
        have A7 := Aside0.mk A70
        clear A70
        by_cases c8 : t713 = true
        · subst c8
          have H1 : ((spec_IsTime.f a0_4).bind fun t714 => (if t714 = true then ((spec_IsTime.f a0_5).bind fun t715 => (if t715 = true then (some (decide (a0_4 ≤ a0_5))) else (some false))) else (some false))) = some r := by rw [if_pos rfl] at H; exact H
          clear H
          have H := H1
          clear H1
          replace H := Option.bind_eq_some_iff.mp H
          obtain ⟨t714, A90, H⟩ := H
          replace H : (if t714 = true then ((spec_IsTime.f a0_5).bind fun t715 => (if t715 = true then (some (decide (a0_4 ≤ a0_5))) else (some false))) else (some false)) = some r := H
          have A9 := Aside0.mk A90
          clear A90
          by_cases c10 : t714 = true
          · subst c10
            have H1 : ((spec_IsTime.f a0_5).bind fun t715 => (if t715 = true then (some (decide (a0_4 ≤ a0_5))) else (some false))) = some r := by rw [if_pos rfl] at H; exact H
            clear H
            have H := H1
            clear H1
            replace H := Option.bind_eq_some_iff.mp H
            obtain ⟨t715, A110, H⟩ := H
            replace H : (if t715 = true then (some (decide (a0_4 ≤ a0_5))) else (some false)) = some r := H
            have A11 := Aside0.mk A110
            clear A110
            by_cases c12 : t715 = true
            · subst c12
              have H1 : (some (decide (a0_4 ≤ a0_5))) = some r := by rw [if_pos rfl] at H; exact H
              clear H
              have H := H1
              clear H1
              obtain rfl := Option.some.inj H
              go_enter Try.func249, Try.ntmps249
              go_wp2_with (first | ((with_reducible refine gate_dst (N := 1) rfl ?_); refine box_event ?hg (N := 1) ?hd (cs := #[.int .i64 a0_0, .int .i64 a0_1, .int .i64 a0_2, .int .i64 a0_3, .int .i64 a0_4, .int .i64 a0_5]) (t := 119) ?hr ?_; (case hd => rfl); (case hg => rfl); (case hr => first | (go_simp; done) | (go_simp; rfl)); intro gb710 hg w13 hbox hb; have n0_ := Aside0.mk (below_step (bb HB.out) hb); have n1_ := Aside0.mk (hbox); have n2_ := Aside0.mk ((by rw [hg]; exact (below_size (bb HB.out)) : w.heap.size ≤ gb710)); have n3_ := Aside0.mk ((by rw [hg]; exact (below_size (bb HB.out)) : w.heap.size ≤ gb710)); clear HB; have HB := n0_; have BK710 := n1_; have GW710 := n2_; have GE710 := n3_; clear n0_ n1_ n2_ n3_; clear hb hbox hg; have hcz14_0 := cz BK710.out 0 (.int .i64 a0_0); have hcz14_1 := cz BK710.out 1 (.int .i64 a0_1); have hcz14_2 := cz BK710.out 2 (.int .i64 a0_2); have hcz14_3 := cz BK710.out 3 (.int .i64 a0_3); have hcz14_4 := cz BK710.out 4 (.int .i64 a0_4); have hcz14_5 := cz BK710.out 5 (.int .i64 a0_5); have hfz14_0 := blk_frozen BK710.out 0; have hfz14_1 := blk_frozen BK710.out 1; have hfz14_2 := blk_frozen BK710.out 2; have hfz14_3 := blk_frozen BK710.out 3; have hfz14_4 := blk_frozen BK710.out 4; have hfz14_5 := blk_frozen BK710.out 5) | ((with_reducible refine gate_callee (f := 239) rfl ?_); refine gm (some 10) Try.func239 #[.int .i64 a0_1, .int .i64 1] ?_; (with_reducible refine (spec_HasKind.calls a0_1 1 true _ A3.out).mono ?_); rintro e w' ⟨rfl, ⟨nd, rfl⟩⟩; refine ⟨_, rfl, ?_⟩) | (go_at_call 96; (with_reducible refine (spec_l1In.calls a0_2 0 5 true _ A5.out).mono ?_); rintro e w' ⟨rfl, ⟨nd, rfl⟩⟩) | (go_at_call 96; (with_reducible refine (spec_l1In.calls a0_3 0 9 true _ A7.out).mono ?_); rintro e w' ⟨rfl, ⟨nd, rfl⟩⟩) | (go_at_call 245; (with_reducible refine (spec_IsTime.calls a0_4 true _ A9.out).mono ?_); rintro e w' ⟨rfl, ⟨nd, rfl⟩⟩) | (go_at_call 245; (with_reducible refine (spec_IsTime.calls a0_5 true _ A11.out).mono ?_); rintro e w' ⟨rfl, ⟨nd, rfl⟩⟩))
              go_ret
              exact ⟨by first | rfl | (simp [errW_none, errW_some] <;> rfl) | (simp [*, errW_none, errW_some] <;> rfl), bb HB.out⟩
            · replace c12 := Bool.eq_false_iff.mpr c12
              subst c12
              have H1 : (some false) = some r := by rw [if_neg (show ¬ (false = true) by decide)] at H; exact H
              clear H
              have H := H1
              clear H1
              obtain rfl := Option.some.inj H
              go_enter Try.func249, Try.ntmps249
              go_wp2_with (first | ((with_reducible refine gate_dst (N := 1) rfl ?_); refine box_event ?hg (N := 1) ?hd (cs := #[.int .i64 a0_0, .int .i64 a0_1, .int .i64 a0_2, .int .i64 a0_3, .int .i64 a0_4, .int .i64 a0_5]) (t := 119) ?hr ?_; (case hd => rfl); (case hg => rfl); (case hr => first | (go_simp; done) | (go_simp; rfl)); intro gb710 hg w15 hbox hb; have n0_ := Aside0.mk (below_step (bb HB.out) hb); have n1_ := Aside0.mk (hbox); have n2_ := Aside0.mk ((by rw [hg]; exact (below_size (bb HB.out)) : w.heap.size ≤ gb710)); have n3_ := Aside0.mk ((by rw [hg]; exact (below_size (bb HB.out)) : w.heap.size ≤ gb710)); clear HB; have HB := n0_; have BK710 := n1_; have GW710 := n2_; have GE710 := n3_; clear n0_ n1_ n2_ n3_; clear hb hbox hg; have hcz16_0 := cz BK710.out 0 (.int .i64 a0_0); have hcz16_1 := cz BK710.out 1 (.int .i64 a0_1); have hcz16_2 := cz BK710.out 2 (.int .i64 a0_2); have hcz16_3 := cz BK710.out 3 (.int .i64 a0_3); have hcz16_4 := cz BK710.out 4 (.int .i64 a0_4); have hcz16_5 := cz BK710.out 5 (.int .i64 a0_5); have hfz16_0 := blk_frozen BK710.out 0; have hfz16_1 := blk_frozen BK710.out 1; have hfz16_2 := blk_frozen BK710.out 2; have hfz16_3 := blk_frozen BK710.out 3; have hfz16_4 := blk_frozen BK710.out 4; have hfz16_5 := blk_frozen BK710.out 5) | ((with_reducible refine gate_callee (f := 239) rfl ?_); refine gm (some 10) Try.func239 #[.int .i64 a0_1, .int .i64 1] ?_; (with_reducible refine (spec_HasKind.calls a0_1 1 true _ A3.out).mono ?_); rintro e w' ⟨rfl, ⟨nd, rfl⟩⟩; refine ⟨_, rfl, ?_⟩) | (go_at_call 96; (with_reducible refine (spec_l1In.calls a0_2 0 5 true _ A5.out).mono ?_); rintro e w' ⟨rfl, ⟨nd, rfl⟩⟩) | (go_at_call 96; (with_reducible refine (spec_l1In.calls a0_3 0 9 true _ A7.out).mono ?_); rintro e w' ⟨rfl, ⟨nd, rfl⟩⟩) | (go_at_call 245; (with_reducible refine (spec_IsTime.calls a0_4 true _ A9.out).mono ?_); rintro e w' ⟨rfl, ⟨nd, rfl⟩⟩) | (go_at_call 245; (with_reducible refine (spec_IsTime.calls a0_5 false _ A11.out).mono ?_); rintro e w' ⟨rfl, ⟨nd, rfl⟩⟩))
              go_ret
              exact ⟨by first | rfl | (simp [errW_none, errW_some] <;> rfl) | (simp [*, errW_none, errW_some] <;> rfl), bb HB.out⟩
          · replace c10 := Bool.eq_false_iff.mpr c10
            subst c10
            have H1 : (some false) = some r := by rw [if_neg (show ¬ (false = true) by decide)] at H; exact H
            clear H
            have H := H1
            clear H1
            obtain rfl := Option.some.inj H
            go_enter Try.func249, Try.ntmps249
            go_wp2_with (first | ((with_reducible refine gate_dst (N := 1) rfl ?_); refine box_event ?hg (N := 1) ?hd (cs := #[.int .i64 a0_0, .int .i64 a0_1, .int .i64 a0_2, .int .i64 a0_3, .int .i64 a0_4, .int .i64 a0_5]) (t := 119) ?hr ?_; (case hd => rfl); (case hg => rfl); (case hr => first | (go_simp; done) | (go_simp; rfl)); intro gb710 hg w17 hbox hb; have n0_ := Aside0.mk (below_step (bb HB.out) hb); have n1_ := Aside0.mk (hbox); have n2_ := Aside0.mk ((by rw [hg]; exact (below_size (bb HB.out)) : w.heap.size ≤ gb710)); have n3_ := Aside0.mk ((by rw [hg]; exact (below_size (bb HB.out)) : w.heap.size ≤ gb710)); clear HB; have HB := n0_; have BK710 := n1_; have GW710 := n2_; have GE710 := n3_; clear n0_ n1_ n2_ n3_; clear hb hbox hg; have hcz18_0 := cz BK710.out 0 (.int .i64 a0_0); have hcz18_1 := cz BK710.out 1 (.int .i64 a0_1); have hcz18_2 := cz BK710.out 2 (.int .i64 a0_2); have hcz18_3 := cz BK710.out 3 (.int .i64 a0_3); have hcz18_4 := cz BK710.out 4 (.int .i64 a0_4); have hcz18_5 := cz BK710.out 5 (.int .i64 a0_5); have hfz18_0 := blk_frozen BK710.out 0; have hfz18_1 := blk_frozen BK710.out 1; have hfz18_2 := blk_frozen BK710.out 2; have hfz18_3 := blk_frozen BK710.out 3; have hfz18_4 := blk_frozen BK710.out 4; have hfz18_5 := blk_frozen BK710.out 5) | ((with_reducible refine gate_callee (f := 239) rfl ?_); refine gm (some 10) Try.func239 #[.int .i64 a0_1, .int .i64 1] ?_; (with_reducible refine (spec_HasKind.calls a0_1 1 true _ A3.out).mono ?_); rintro e w' ⟨rfl, ⟨nd, rfl⟩⟩; refine ⟨_, rfl, ?_⟩) | (go_at_call 96; (with_reducible refine (spec_l1In.calls a0_2 0 5 true _ A5.out).mono ?_); rintro e w' ⟨rfl, ⟨nd, rfl⟩⟩) | (go_at_call 96; (with_reducible refine (spec_l1In.calls a0_3 0 9 true _ A7.out).mono ?_); rintro e w' ⟨rfl, ⟨nd, rfl⟩⟩) | (go_at_call 245; (with_reducible refine (spec_IsTime.calls a0_4 false _ A9.out).mono ?_); rintro e w' ⟨rfl, ⟨nd, rfl⟩⟩))
            go_ret
            exact ⟨by first | rfl | (simp [errW_none, errW_some] <;> rfl) | (simp [*, errW_none, errW_some] <;> rfl), bb HB.out⟩
        · replace c8 := Bool.eq_false_iff.mpr c8
          subst c8
          have H1 : (some false) = some r := by rw [if_neg (show ¬ (false = true) by decide)] at H; exact H
          clear H
          have H := H1
          clear H1
          obtain rfl := Option.some.inj H
          go_enter Try.func249, Try.ntmps249
          go_wp2_with (first | ((with_reducible refine gate_dst (N := 1) rfl ?_); refine box_event ?hg (N := 1) ?hd (cs := #[.int .i64 a0_0, .int .i64 a0_1, .int .i64 a0_2, .int .i64 a0_3, .int .i64 a0_4, .int .i64 a0_5]) (t := 119) ?hr ?_; (case hd => rfl); (case hg => rfl); (case hr => first | (go_simp; done) | (go_simp; rfl)); intro gb710 hg w19 hbox hb; have n0_ := Aside0.mk (below_step (bb HB.out) hb); have n1_ := Aside0.mk (hbox); have n2_ := Aside0.mk ((by rw [hg]; exact (below_size (bb HB.out)) : w.heap.size ≤ gb710)); have n3_ := Aside0.mk ((by rw [hg]; exact (below_size (bb HB.out)) : w.heap.size ≤ gb710)); clear HB; have HB := n0_; have BK710 := n1_; have GW710 := n2_; have GE710 := n3_; clear n0_ n1_ n2_ n3_; clear hb hbox hg; have hcz20_0 := cz BK710.out 0 (.int .i64 a0_0); have hcz20_1 := cz BK710.out 1 (.int .i64 a0_1); have hcz20_2 := cz BK710.out 2 (.int .i64 a0_2); have hcz20_3 := cz BK710.out 3 (.int .i64 a0_3); have hcz20_4 := cz BK710.out 4 (.int .i64 a0_4); have hcz20_5 := cz BK710.out 5 (.int .i64 a0_5); have hfz20_0 := blk_frozen BK710.out 0; have hfz20_1 := blk_frozen BK710.out 1; have hfz20_2 := blk_frozen BK710.out 2; have hfz20_3 := blk_frozen BK710.out 3; have hfz20_4 := blk_frozen BK710.out 4; have hfz20_5 := blk_frozen BK710.out 5) | ((with_reducible refine gate_callee (f := 239) rfl ?_); refine gm (some 10) Try.func239 #[.int .i64 a0_1, .int .i64 1] ?_; (with_reducible refine (spec_HasKind.calls a0_1 1 true _ A3.out).mono ?_); rintro e w' ⟨rfl, ⟨nd, rfl⟩⟩; refine ⟨_, rfl, ?_⟩) | (go_at_call 96; (with_reducible refine (spec_l1In.calls a0_2 0 5 true _ A5.out).mono ?_); rintro e w' ⟨rfl, ⟨nd, rfl⟩⟩) | (go_at_call 96; (with_reducible refine (spec_l1In.calls a0_3 0 9 false _ A7.out).mono ?_); rintro e w' ⟨rfl, ⟨nd, rfl⟩⟩))
          go_ret
          exact ⟨by first | rfl | (simp [errW_none, errW_some] <;> rfl) | (simp [*, errW_none, errW_some] <;> rfl), bb HB.out⟩
      · replace c6 := Bool.eq_false_iff.mpr c6
        subst c6
        have H1 : (some false) = some r := by rw [if_neg (show ¬ (false = true) by decide)] at H; exact H
        clear H
        have H := H1
        clear H1
        obtain rfl := Option.some.inj H
        go_enter Try.func249, Try.ntmps249
        go_wp2_with (first | ((with_reducible refine gate_dst (N := 1) rfl ?_); refine box_event ?hg (N := 1) ?hd (cs := #[.int .i64 a0_0, .int .i64 a0_1, .int .i64 a0_2, .int .i64 a0_3, .int .i64 a0_4, .int .i64 a0_5]) (t := 119) ?hr ?_; (case hd => rfl); (case hg => rfl); (case hr => first | (go_simp; done) | (go_simp; rfl)); intro gb710 hg w21 hbox hb; have n0_ := Aside0.mk (below_step (bb HB.out) hb); have n1_ := Aside0.mk (hbox); have n2_ := Aside0.mk ((by rw [hg]; exact (below_size (bb HB.out)) : w.heap.size ≤ gb710)); have n3_ := Aside0.mk ((by rw [hg]; exact (below_size (bb HB.out)) : w.heap.size ≤ gb710)); clear HB; have HB := n0_; have BK710 := n1_; have GW710 := n2_; have GE710 := n3_; clear n0_ n1_ n2_ n3_; clear hb hbox hg; have hcz22_0 := cz BK710.out 0 (.int .i64 a0_0); have hcz22_1 := cz BK710.out 1 (.int .i64 a0_1); have hcz22_2 := cz BK710.out 2 (.int .i64 a0_2); have hcz22_3 := cz BK710.out 3 (.int .i64 a0_3); have hcz22_4 := cz BK710.out 4 (.int .i64 a0_4); have hcz22_5 := cz BK710.out 5 (.int .i64 a0_5); have hfz22_0 := blk_frozen BK710.out 0; have hfz22_1 := blk_frozen BK710.out 1; have hfz22_2 := blk_frozen BK710.out 2; have hfz22_3 := blk_frozen BK710.out 3; have hfz22_4 := blk_frozen BK710.out 4; have hfz22_5 := blk_frozen BK710.out 5) | ((with_reducible refine gate_callee (f := 239) rfl ?_); refine gm (some 10) Try.func239 #[.int .i64 a0_1, .int .i64 1] ?_; (with_reducible refine (spec_HasKind.calls a0_1 1 true _ A3.out).mono ?_); rintro e w' ⟨rfl, ⟨nd, rfl⟩⟩; refine ⟨_, rfl, ?_⟩) | (go_at_call 96; (with_reducible refine (spec_l1In.calls a0_2 0 5 false _ A5.out).mono ?_); rintro e w' ⟨rfl, ⟨nd, rfl⟩⟩))
        go_ret
        exact ⟨by first | rfl | (simp [errW_none, errW_some] <;> rfl) | (simp [*, errW_none, errW_some] <;> rfl), bb HB.out⟩
    · replace c4 := Bool.eq_false_iff.mpr c4
      subst c4
      have H1 : (some false) = some r := by rw [if_neg (show ¬ (false = true) by decide)] at H; exact H
      clear H
      have H := H1
      clear H1
      obtain rfl := Option.some.inj H
      go_enter Try.func249, Try.ntmps249
      go_wp2_with (first | ((with_reducible refine gate_dst (N := 1) rfl ?_); refine box_event ?hg (N := 1) ?hd (cs := #[.int .i64 a0_0, .int .i64 a0_1, .int .i64 a0_2, .int .i64 a0_3, .int .i64 a0_4, .int .i64 a0_5]) (t := 119) ?hr ?_; (case hd => rfl); (case hg => rfl); (case hr => first | (go_simp; done) | (go_simp; rfl)); intro gb710 hg w23 hbox hb; have n0_ := Aside0.mk (below_step (bb HB.out) hb); have n1_ := Aside0.mk (hbox); have n2_ := Aside0.mk ((by rw [hg]; exact (below_size (bb HB.out)) : w.heap.size ≤ gb710)); have n3_ := Aside0.mk ((by rw [hg]; exact (below_size (bb HB.out)) : w.heap.size ≤ gb710)); clear HB; have HB := n0_; have BK710 := n1_; have GW710 := n2_; have GE710 := n3_; clear n0_ n1_ n2_ n3_; clear hb hbox hg; have hcz24_0 := cz BK710.out 0 (.int .i64 a0_0); have hcz24_1 := cz BK710.out 1 (.int .i64 a0_1); have hcz24_2 := cz BK710.out 2 (.int .i64 a0_2); have hcz24_3 := cz BK710.out 3 (.int .i64 a0_3); have hcz24_4 := cz BK710.out 4 (.int .i64 a0_4); have hcz24_5 := cz BK710.out 5 (.int .i64 a0_5); have hfz24_0 := blk_frozen BK710.out 0; have hfz24_1 := blk_frozen BK710.out 1; have hfz24_2 := blk_frozen BK710.out 2; have hfz24_3 := blk_frozen BK710.out 3; have hfz24_4 := blk_frozen BK710.out 4; have hfz24_5 := blk_frozen BK710.out 5) | ((with_reducible refine gate_callee (f := 239) rfl ?_); refine gm (some 10) Try.func239 #[.int .i64 a0_1, .int .i64 1] ?_; (with_reducible refine (spec_HasKind.calls a0_1 1 false _ A3.out).mono ?_); rintro e w' ⟨rfl, ⟨nd, rfl⟩⟩; refine ⟨_, rfl, ?_⟩))
      go_ret
      exact ⟨by first | rfl | (simp [errW_none, errW_some] <;> rfl) | (simp [*, errW_none, errW_some] <;> rfl), bb HB.out⟩
  · rw [if_neg c2] at H
    have c2b0 : (a0_0 == 1) = false := beq_eq_false_iff_ne.mpr c2
    have c2b1 : (a0_0 != 1) = true := bne_iff_ne.mpr c2
    by_cases c25 : a0_0 = 2
    · rw [if_pos c25] at H
      have c25b0 : (a0_0 == 2) = true := beq_iff_eq.mpr c25
      have c25b1 : (a0_0 != 2) = false := bne_eq_false_iff_eq.mpr c25
      clear c25
      replace H := Option.bind_eq_some_iff.mp H
      obtain ⟨t716, A260, H⟩ := H
      replace H : (if t716 = true then ((spec_HasKind.f a0_2 2).bind fun t717 => (if t717 = true then ((spec_l1In.f a0_3 0 9).bind fun t718 => (if t718 = true then ((spec_IsTime.f a0_4).bind fun t719 => (if t719 = true then ((spec_IsTime.f a0_5).bind fun t720 => (if t720 = true then (some (decide (a0_4 ≤ a0_5))) else (some false))) else (some false))) else (some false))) else (some false))) else (some false)) = some r := H
      have A26 := Aside0.mk A260
      clear A260
      by_cases c27 : t716 = true
      · subst c27
        have H1 : ((spec_HasKind.f a0_2 2).bind fun t717 => (if t717 = true then ((spec_l1In.f a0_3 0 9).bind fun t718 => (if t718 = true then ((spec_IsTime.f a0_4).bind fun t719 => (if t719 = true then ((spec_IsTime.f a0_5).bind fun t720 => (if t720 = true then (some (decide (a0_4 ≤ a0_5))) else (some false))) else (some false))) else (some false))) else (some false))) = some r := by rw [if_pos rfl] at H; exact H
        clear H
        have H := H1
        clear H1
        replace H := Option.bind_eq_some_iff.mp H
        obtain ⟨t717, A280, H⟩ := H
        replace H : (if t717 = true then ((spec_l1In.f a0_3 0 9).bind fun t718 => (if t718 = true then ((spec_IsTime.f a0_4).bind fun t719 => (if t719 = true then ((spec_IsTime.f a0_5).bind fun t720 => (if t720 = true then (some (decide (a0_4 ≤ a0_5))) else (some false))) else (some false))) else (some false))) else (some false)) = some r := H
        have A28 := Aside0.mk A280
        clear A280
        by_cases c29 : t717 = true
        · subst c29
          have H1 : ((spec_l1In.f a0_3 0 9).bind fun t718 => (if t718 = true then ((spec_IsTime.f a0_4).bind fun t719 => (if t719 = true then ((spec_IsTime.f a0_5).bind fun t720 => (if t720 = true then (some (decide (a0_4 ≤ a0_5))) else (some false))) else (some false))) else (some false))) = some r := by rw [if_pos rfl] at H; exact H
          clear H
          have H := H1
          clear H1
          replace H := Option.bind_eq_some_iff.mp H
          obtain ⟨t718, A300, H⟩ := H
          replace H : (if t718 = true then ((spec_IsTime.f a0_4).bind fun t719 => (if t719 = true then ((spec_IsTime.f a0_5).bind fun t720 => (if t720 = true then (some (decide (a0_4 ≤ a0_5))) else (some false))) else (some false))) else (some false)) = some r := H
          have A30 := Aside0.mk A300
          clear A300
          by_cases c31 : t718 = true
          · subst c31
            have H1 : ((spec_IsTime.f a0_4).bind fun t719 => (if t719 = true then ((spec_IsTime.f a0_5).bind fun t720 => (if t720 = true then (some (decide (a0_4 ≤ a0_5))) else (some false))) else (some false))) = some r := by rw [if_pos rfl] at H; exact H
            clear H
            have H := H1
            clear H1
            replace H := Option.bind_eq_some_iff.mp H
            obtain ⟨t719, A320, H⟩ := H
            replace H : (if t719 = true then ((spec_IsTime.f a0_5).bind fun t720 => (if t720 = true then (some (decide (a0_4 ≤ a0_5))) else (some false))) else (some false)) = some r := H
            have A32 := Aside0.mk A320
            clear A320
            by_cases c33 : t719 = true
            · subst c33
              have H1 : ((spec_IsTime.f a0_5).bind fun t720 => (if t720 = true then (some (decide (a0_4 ≤ a0_5))) else (some false))) = some r := by rw [if_pos rfl] at H; exact H
              clear H
              have H := H1
              clear H1
              replace H := Option.bind_eq_some_iff.mp H
              obtain ⟨t720, A340, H⟩ := H
              replace H : (if t720 = true then (some (decide (a0_4 ≤ a0_5))) else (some false)) = some r := H
              have A34 := Aside0.mk A340
              clear A340
              by_cases c35 : t720 = true
              · subst c35
                have H1 : (some (decide (a0_4 ≤ a0_5))) = some r := by rw [if_pos rfl] at H; exact H
                clear H
                have H := H1
                clear H1
                obtain rfl := Option.some.inj H
                go_enter Try.func249, Try.ntmps249
                go_wp2_with (first | ((with_reducible refine gate_dst (N := 1) rfl ?_); refine box_event ?hg (N := 1) ?hd (cs := #[.int .i64 a0_0, .int .i64 a0_1, .int .i64 a0_2, .int .i64 a0_3, .int .i64 a0_4, .int .i64 a0_5]) (t := 119) ?hr ?_; (case hd => rfl); (case hg => rfl); (case hr => first | (go_simp; done) | (go_simp; rfl)); intro gb710 hg w36 hbox hb; have n0_ := Aside0.mk (below_step (bb HB.out) hb); have n1_ := Aside0.mk (hbox); have n2_ := Aside0.mk ((by rw [hg]; exact (below_size (bb HB.out)) : w.heap.size ≤ gb710)); have n3_ := Aside0.mk ((by rw [hg]; exact (below_size (bb HB.out)) : w.heap.size ≤ gb710)); clear HB; have HB := n0_; have BK710 := n1_; have GW710 := n2_; have GE710 := n3_; clear n0_ n1_ n2_ n3_; clear hb hbox hg; have hcz37_0 := cz BK710.out 0 (.int .i64 a0_0); have hcz37_1 := cz BK710.out 1 (.int .i64 a0_1); have hcz37_2 := cz BK710.out 2 (.int .i64 a0_2); have hcz37_3 := cz BK710.out 3 (.int .i64 a0_3); have hcz37_4 := cz BK710.out 4 (.int .i64 a0_4); have hcz37_5 := cz BK710.out 5 (.int .i64 a0_5); have hfz37_0 := blk_frozen BK710.out 0; have hfz37_1 := blk_frozen BK710.out 1; have hfz37_2 := blk_frozen BK710.out 2; have hfz37_3 := blk_frozen BK710.out 3; have hfz37_4 := blk_frozen BK710.out 4; have hfz37_5 := blk_frozen BK710.out 5) | ((with_reducible refine gate_callee (f := 239) rfl ?_); refine gm (some 20) Try.func239 #[.int .i64 a0_1, .int .i64 1] ?_; (with_reducible refine (spec_HasKind.calls a0_1 1 true _ A26.out).mono ?_); rintro e w' ⟨rfl, ⟨nd, rfl⟩⟩; refine ⟨_, rfl, ?_⟩) | (go_at_call 239; (with_reducible refine (spec_HasKind.calls a0_2 2 true _ A28.out).mono ?_); rintro e w' ⟨rfl, ⟨nd, rfl⟩⟩) | (go_at_call 96; (with_reducible refine (spec_l1In.calls a0_3 0 9 true _ A30.out).mono ?_); rintro e w' ⟨rfl, ⟨nd, rfl⟩⟩) | (go_at_call 245; (with_reducible refine (spec_IsTime.calls a0_4 true _ A32.out).mono ?_); rintro e w' ⟨rfl, ⟨nd, rfl⟩⟩) | (go_at_call 245; (with_reducible refine (spec_IsTime.calls a0_5 true _ A34.out).mono ?_); rintro e w' ⟨rfl, ⟨nd, rfl⟩⟩))
                go_ret
                exact ⟨by first | rfl | (simp [errW_none, errW_some] <;> rfl) | (simp [*, errW_none, errW_some] <;> rfl), bb HB.out⟩
              · replace c35 := Bool.eq_false_iff.mpr c35
                subst c35
                have H1 : (some false) = some r := by rw [if_neg (show ¬ (false = true) by decide)] at H; exact H
                clear H
                have H := H1
                clear H1
                obtain rfl := Option.some.inj H
                go_enter Try.func249, Try.ntmps249
                go_wp2_with (first | ((with_reducible refine gate_dst (N := 1) rfl ?_); refine box_event ?hg (N := 1) ?hd (cs := #[.int .i64 a0_0, .int .i64 a0_1, .int .i64 a0_2, .int .i64 a0_3, .int .i64 a0_4, .int .i64 a0_5]) (t := 119) ?hr ?_; (case hd => rfl); (case hg => rfl); (case hr => first | (go_simp; done) | (go_simp; rfl)); intro gb710 hg w38 hbox hb; have n0_ := Aside0.mk (below_step (bb HB.out) hb); have n1_ := Aside0.mk (hbox); have n2_ := Aside0.mk ((by rw [hg]; exact (below_size (bb HB.out)) : w.heap.size ≤ gb710)); have n3_ := Aside0.mk ((by rw [hg]; exact (below_size (bb HB.out)) : w.heap.size ≤ gb710)); clear HB; have HB := n0_; have BK710 := n1_; have GW710 := n2_; have GE710 := n3_; clear n0_ n1_ n2_ n3_; clear hb hbox hg; have hcz39_0 := cz BK710.out 0 (.int .i64 a0_0); have hcz39_1 := cz BK710.out 1 (.int .i64 a0_1); have hcz39_2 := cz BK710.out 2 (.int .i64 a0_2); have hcz39_3 := cz BK710.out 3 (.int .i64 a0_3); have hcz39_4 := cz BK710.out 4 (.int .i64 a0_4); have hcz39_5 := cz BK710.out 5 (.int .i64 a0_5); have hfz39_0 := blk_frozen BK710.out 0; have hfz39_1 := blk_frozen BK710.out 1; have hfz39_2 := blk_frozen BK710.out 2; have hfz39_3 := blk_frozen BK710.out 3; have hfz39_4 := blk_frozen BK710.out 4; have hfz39_5 := blk_frozen BK710.out 5) | ((with_reducible refine gate_callee (f := 239) rfl ?_); refine gm (some 20) Try.func239 #[.int .i64 a0_1, .int .i64 1] ?_; (with_reducible refine (spec_HasKind.calls a0_1 1 true _ A26.out).mono ?_); rintro e w' ⟨rfl, ⟨nd, rfl⟩⟩; refine ⟨_, rfl, ?_⟩) | (go_at_call 239; (with_reducible refine (spec_HasKind.calls a0_2 2 true _ A28.out).mono ?_); rintro e w' ⟨rfl, ⟨nd, rfl⟩⟩) | (go_at_call 96; (with_reducible refine (spec_l1In.calls a0_3 0 9 true _ A30.out).mono ?_); rintro e w' ⟨rfl, ⟨nd, rfl⟩⟩) | (go_at_call 245; (with_reducible refine (spec_IsTime.calls a0_4 true _ A32.out).mono ?_); rintro e w' ⟨rfl, ⟨nd, rfl⟩⟩) | (go_at_call 245; (with_reducible refine (spec_IsTime.calls a0_5 false _ A34.out).mono ?_); rintro e w' ⟨rfl, ⟨nd, rfl⟩⟩))
                go_ret
                exact ⟨by first | rfl | (simp [errW_none, errW_some] <;> rfl) | (simp [*, errW_none, errW_some] <;> rfl), bb HB.out⟩
            · replace c33 := Bool.eq_false_iff.mpr c33
              subst c33
              have H1 : (some false) = some r := by rw [if_neg (show ¬ (false = true) by decide)] at H; exact H
              clear H
              have H := H1
              clear H1
              obtain rfl := Option.some.inj H
              go_enter Try.func249, Try.ntmps249
              go_wp2_with (first | ((with_reducible refine gate_dst (N := 1) rfl ?_); refine box_event ?hg (N := 1) ?hd (cs := #[.int .i64 a0_0, .int .i64 a0_1, .int .i64 a0_2, .int .i64 a0_3, .int .i64 a0_4, .int .i64 a0_5]) (t := 119) ?hr ?_; (case hd => rfl); (case hg => rfl); (case hr => first | (go_simp; done) | (go_simp; rfl)); intro gb710 hg w40 hbox hb; have n0_ := Aside0.mk (below_step (bb HB.out) hb); have n1_ := Aside0.mk (hbox); have n2_ := Aside0.mk ((by rw [hg]; exact (below_size (bb HB.out)) : w.heap.size ≤ gb710)); have n3_ := Aside0.mk ((by rw [hg]; exact (below_size (bb HB.out)) : w.heap.size ≤ gb710)); clear HB; have HB := n0_; have BK710 := n1_; have GW710 := n2_; have GE710 := n3_; clear n0_ n1_ n2_ n3_; clear hb hbox hg; have hcz41_0 := cz BK710.out 0 (.int .i64 a0_0); have hcz41_1 := cz BK710.out 1 (.int .i64 a0_1); have hcz41_2 := cz BK710.out 2 (.int .i64 a0_2); have hcz41_3 := cz BK710.out 3 (.int .i64 a0_3); have hcz41_4 := cz BK710.out 4 (.int .i64 a0_4); have hcz41_5 := cz BK710.out 5 (.int .i64 a0_5); have hfz41_0 := blk_frozen BK710.out 0; have hfz41_1 := blk_frozen BK710.out 1; have hfz41_2 := blk_frozen BK710.out 2; have hfz41_3 := blk_frozen BK710.out 3; have hfz41_4 := blk_frozen BK710.out 4; have hfz41_5 := blk_frozen BK710.out 5) | ((with_reducible refine gate_callee (f := 239) rfl ?_); refine gm (some 20) Try.func239 #[.int .i64 a0_1, .int .i64 1] ?_; (with_reducible refine (spec_HasKind.calls a0_1 1 true _ A26.out).mono ?_); rintro e w' ⟨rfl, ⟨nd, rfl⟩⟩; refine ⟨_, rfl, ?_⟩) | (go_at_call 239; (with_reducible refine (spec_HasKind.calls a0_2 2 true _ A28.out).mono ?_); rintro e w' ⟨rfl, ⟨nd, rfl⟩⟩) | (go_at_call 96; (with_reducible refine (spec_l1In.calls a0_3 0 9 true _ A30.out).mono ?_); rintro e w' ⟨rfl, ⟨nd, rfl⟩⟩) | (go_at_call 245; (with_reducible refine (spec_IsTime.calls a0_4 false _ A32.out).mono ?_); rintro e w' ⟨rfl, ⟨nd, rfl⟩⟩))
              go_ret
              exact ⟨by first | rfl | (simp [errW_none, errW_some] <;> rfl) | (simp [*, errW_none, errW_some] <;> rfl), bb HB.out⟩
          · replace c31 := Bool.eq_false_iff.mpr c31
            subst c31
            have H1 : (some false) = some r := by rw [if_neg (show ¬ (false = true) by decide)] at H; exact H
            clear H
            have H := H1
            clear H1
            obtain rfl := Option.some.inj H
            go_enter Try.func249, Try.ntmps249
            go_wp2_with (first | ((with_reducible refine gate_dst (N := 1) rfl ?_); refine box_event ?hg (N := 1) ?hd (cs := #[.int .i64 a0_0, .int .i64 a0_1, .int .i64 a0_2, .int .i64 a0_3, .int .i64 a0_4, .int .i64 a0_5]) (t := 119) ?hr ?_; (case hd => rfl); (case hg => rfl); (case hr => first | (go_simp; done) | (go_simp; rfl)); intro gb710 hg w42 hbox hb; have n0_ := Aside0.mk (below_step (bb HB.out) hb); have n1_ := Aside0.mk (hbox); have n2_ := Aside0.mk ((by rw [hg]; exact (below_size (bb HB.out)) : w.heap.size ≤ gb710)); have n3_ := Aside0.mk ((by rw [hg]; exact (below_size (bb HB.out)) : w.heap.size ≤ gb710)); clear HB; have HB := n0_; have BK710 := n1_; have GW710 := n2_; have GE710 := n3_; clear n0_ n1_ n2_ n3_; clear hb hbox hg; have hcz43_0 := cz BK710.out 0 (.int .i64 a0_0); have hcz43_1 := cz BK710.out 1 (.int .i64 a0_1); have hcz43_2 := cz BK710.out 2 (.int .i64 a0_2); have hcz43_3 := cz BK710.out 3 (.int .i64 a0_3); have hcz43_4 := cz BK710.out 4 (.int .i64 a0_4); have hcz43_5 := cz BK710.out 5 (.int .i64 a0_5); have hfz43_0 := blk_frozen BK710.out 0; have hfz43_1 := blk_frozen BK710.out 1; have hfz43_2 := blk_frozen BK710.out 2; have hfz43_3 := blk_frozen BK710.out 3; have hfz43_4 := blk_frozen BK710.out 4; have hfz43_5 := blk_frozen BK710.out 5) | ((with_reducible refine gate_callee (f := 239) rfl ?_); refine gm (some 20) Try.func239 #[.int .i64 a0_1, .int .i64 1] ?_; (with_reducible refine (spec_HasKind.calls a0_1 1 true _ A26.out).mono ?_); rintro e w' ⟨rfl, ⟨nd, rfl⟩⟩; refine ⟨_, rfl, ?_⟩) | (go_at_call 239; (with_reducible refine (spec_HasKind.calls a0_2 2 true _ A28.out).mono ?_); rintro e w' ⟨rfl, ⟨nd, rfl⟩⟩) | (go_at_call 96; (with_reducible refine (spec_l1In.calls a0_3 0 9 false _ A30.out).mono ?_); rintro e w' ⟨rfl, ⟨nd, rfl⟩⟩))
            go_ret
            exact ⟨by first | rfl | (simp [errW_none, errW_some] <;> rfl) | (simp [*, errW_none, errW_some] <;> rfl), bb HB.out⟩
        · replace c29 := Bool.eq_false_iff.mpr c29
          subst c29
          have H1 : (some false) = some r := by rw [if_neg (show ¬ (false = true) by decide)] at H; exact H
          clear H
          have H := H1
          clear H1
          obtain rfl := Option.some.inj H
          go_enter Try.func249, Try.ntmps249
          go_wp2_with (first | ((with_reducible refine gate_dst (N := 1) rfl ?_); refine box_event ?hg (N := 1) ?hd (cs := #[.int .i64 a0_0, .int .i64 a0_1, .int .i64 a0_2, .int .i64 a0_3, .int .i64 a0_4, .int .i64 a0_5]) (t := 119) ?hr ?_; (case hd => rfl); (case hg => rfl); (case hr => first | (go_simp; done) | (go_simp; rfl)); intro gb710 hg w44 hbox hb; have n0_ := Aside0.mk (below_step (bb HB.out) hb); have n1_ := Aside0.mk (hbox); have n2_ := Aside0.mk ((by rw [hg]; exact (below_size (bb HB.out)) : w.heap.size ≤ gb710)); have n3_ := Aside0.mk ((by rw [hg]; exact (below_size (bb HB.out)) : w.heap.size ≤ gb710)); clear HB; have HB := n0_; have BK710 := n1_; have GW710 := n2_; have GE710 := n3_; clear n0_ n1_ n2_ n3_; clear hb hbox hg; have hcz45_0 := cz BK710.out 0 (.int .i64 a0_0); have hcz45_1 := cz BK710.out 1 (.int .i64 a0_1); have hcz45_2 := cz BK710.out 2 (.int .i64 a0_2); have hcz45_3 := cz BK710.out 3 (.int .i64 a0_3); have hcz45_4 := cz BK710.out 4 (.int .i64 a0_4); have hcz45_5 := cz BK710.out 5 (.int .i64 a0_5); have hfz45_0 := blk_frozen BK710.out 0; have hfz45_1 := blk_frozen BK710.out 1; have hfz45_2 := blk_frozen BK710.out 2; have hfz45_3 := blk_frozen BK710.out 3; have hfz45_4 := blk_frozen BK710.out 4; have hfz45_5 := blk_frozen BK710.out 5) | ((with_reducible refine gate_callee (f := 239) rfl ?_); refine gm (some 20) Try.func239 #[.int .i64 a0_1, .int .i64 1] ?_; (with_reducible refine (spec_HasKind.calls a0_1 1 true _ A26.out).mono ?_); rintro e w' ⟨rfl, ⟨nd, rfl⟩⟩; refine ⟨_, rfl, ?_⟩) | (go_at_call 239; (with_reducible refine (spec_HasKind.calls a0_2 2 false _ A28.out).mono ?_); rintro e w' ⟨rfl, ⟨nd, rfl⟩⟩))
          go_ret
          exact ⟨by first | rfl | (simp [errW_none, errW_some] <;> rfl) | (simp [*, errW_none, errW_some] <;> rfl), bb HB.out⟩
      · replace c27 := Bool.eq_false_iff.mpr c27
        subst c27
        have H1 : (some false) = some r := by rw [if_neg (show ¬ (false = true) by decide)] at H; exact H
        clear H
        have H := H1
        clear H1
        obtain rfl := Option.some.inj H
        go_enter Try.func249, Try.ntmps249
        go_wp2_with (first | ((with_reducible refine gate_dst (N := 1) rfl ?_); refine box_event ?hg (N := 1) ?hd (cs := #[.int .i64 a0_0, .int .i64 a0_1, .int .i64 a0_2, .int .i64 a0_3, .int .i64 a0_4, .int .i64 a0_5]) (t := 119) ?hr ?_; (case hd => rfl); (case hg => rfl); (case hr => first | (go_simp; done) | (go_simp; rfl)); intro gb710 hg w46 hbox hb; have n0_ := Aside0.mk (below_step (bb HB.out) hb); have n1_ := Aside0.mk (hbox); have n2_ := Aside0.mk ((by rw [hg]; exact (below_size (bb HB.out)) : w.heap.size ≤ gb710)); have n3_ := Aside0.mk ((by rw [hg]; exact (below_size (bb HB.out)) : w.heap.size ≤ gb710)); clear HB; have HB := n0_; have BK710 := n1_; have GW710 := n2_; have GE710 := n3_; clear n0_ n1_ n2_ n3_; clear hb hbox hg; have hcz47_0 := cz BK710.out 0 (.int .i64 a0_0); have hcz47_1 := cz BK710.out 1 (.int .i64 a0_1); have hcz47_2 := cz BK710.out 2 (.int .i64 a0_2); have hcz47_3 := cz BK710.out 3 (.int .i64 a0_3); have hcz47_4 := cz BK710.out 4 (.int .i64 a0_4); have hcz47_5 := cz BK710.out 5 (.int .i64 a0_5); have hfz47_0 := blk_frozen BK710.out 0; have hfz47_1 := blk_frozen BK710.out 1; have hfz47_2 := blk_frozen BK710.out 2; have hfz47_3 := blk_frozen BK710.out 3; have hfz47_4 := blk_frozen BK710.out 4; have hfz47_5 := blk_frozen BK710.out 5) | ((with_reducible refine gate_callee (f := 239) rfl ?_); refine gm (some 20) Try.func239 #[.int .i64 a0_1, .int .i64 1] ?_; (with_reducible refine (spec_HasKind.calls a0_1 1 false _ A26.out).mono ?_); rintro e w' ⟨rfl, ⟨nd, rfl⟩⟩; refine ⟨_, rfl, ?_⟩))
        go_ret
        exact ⟨by first | rfl | (simp [errW_none, errW_some] <;> rfl) | (simp [*, errW_none, errW_some] <;> rfl), bb HB.out⟩
    · rw [if_neg c25] at H
      have c25b0 : (a0_0 == 2) = false := beq_eq_false_iff_ne.mpr c25
      have c25b1 : (a0_0 != 2) = true := bne_iff_ne.mpr c25
      by_cases c48 : a0_0 = 3
      · rw [if_pos c48] at H
        have c48b0 : (a0_0 == 3) = true := beq_iff_eq.mpr c48
        have c48b1 : (a0_0 != 3) = false := bne_eq_false_iff_eq.mpr c48
        clear c48
        replace H := Option.bind_eq_some_iff.mp H
        obtain ⟨t721, A490, H⟩ := H
        replace H : (if t721 = true then ((spec_l1In.f a0_2 0 3).bind fun t722 => (if t722 = true then ((spec_l1In.f a0_3 0 9).bind fun t723 => (if t723 = true then ((spec_IsTime.f a0_4).bind fun t724 => (if t724 = true then ((spec_IsTime.f a0_5).bind fun t725 => (if t725 = true then (some (decide (a0_4 ≤ a0_5))) else (some false))) else (some false))) else (some false))) else (some false))) else (some false)) = some r := H
        have A49 := Aside0.mk A490
        clear A490
        by_cases c50 : t721 = true
        · subst c50
          have H1 : ((spec_l1In.f a0_2 0 3).bind fun t722 => (if t722 = true then ((spec_l1In.f a0_3 0 9).bind fun t723 => (if t723 = true then ((spec_IsTime.f a0_4).bind fun t724 => (if t724 = true then ((spec_IsTime.f a0_5).bind fun t725 => (if t725 = true then (some (decide (a0_4 ≤ a0_5))) else (some false))) else (some false))) else (some false))) else (some false))) = some r := by rw [if_pos rfl] at H; exact H
          clear H
          have H := H1
          clear H1
          replace H := Option.bind_eq_some_iff.mp H
          obtain ⟨t722, A510, H⟩ := H
          replace H : (if t722 = true then ((spec_l1In.f a0_3 0 9).bind fun t723 => (if t723 = true then ((spec_IsTime.f a0_4).bind fun t724 => (if t724 = true then ((spec_IsTime.f a0_5).bind fun t725 => (if t725 = true then (some (decide (a0_4 ≤ a0_5))) else (some false))) else (some false))) else (some false))) else (some false)) = some r := H
          have A51 := Aside0.mk A510
          clear A510
          by_cases c52 : t722 = true
          · subst c52
            have H1 : ((spec_l1In.f a0_3 0 9).bind fun t723 => (if t723 = true then ((spec_IsTime.f a0_4).bind fun t724 => (if t724 = true then ((spec_IsTime.f a0_5).bind fun t725 => (if t725 = true then (some (decide (a0_4 ≤ a0_5))) else (some false))) else (some false))) else (some false))) = some r := by rw [if_pos rfl] at H; exact H
            clear H
            have H := H1
            clear H1
            replace H := Option.bind_eq_some_iff.mp H
            obtain ⟨t723, A530, H⟩ := H
            replace H : (if t723 = true then ((spec_IsTime.f a0_4).bind fun t724 => (if t724 = true then ((spec_IsTime.f a0_5).bind fun t725 => (if t725 = true then (some (decide (a0_4 ≤ a0_5))) else (some false))) else (some false))) else (some false)) = some r := H
            have A53 := Aside0.mk A530
            clear A530
            by_cases c54 : t723 = true
            · subst c54
              have H1 : ((spec_IsTime.f a0_4).bind fun t724 => (if t724 = true then ((spec_IsTime.f a0_5).bind fun t725 => (if t725 = true then (some (decide (a0_4 ≤ a0_5))) else (some false))) else (some false))) = some r := by rw [if_pos rfl] at H; exact H
              clear H
              have H := H1
              clear H1
              replace H := Option.bind_eq_some_iff.mp H
              obtain ⟨t724, A550, H⟩ := H
              replace H : (if t724 = true then ((spec_IsTime.f a0_5).bind fun t725 => (if t725 = true then (some (decide (a0_4 ≤ a0_5))) else (some false))) else (some false)) = some r := H
              have A55 := Aside0.mk A550
              clear A550
              by_cases c56 : t724 = true
              · subst c56
                have H1 : ((spec_IsTime.f a0_5).bind fun t725 => (if t725 = true then (some (decide (a0_4 ≤ a0_5))) else (some false))) = some r := by rw [if_pos rfl] at H; exact H
                clear H
                have H := H1
                clear H1
                replace H := Option.bind_eq_some_iff.mp H
                obtain ⟨t725, A570, H⟩ := H
                replace H : (if t725 = true then (some (decide (a0_4 ≤ a0_5))) else (some false)) = some r := H
                have A57 := Aside0.mk A570
                clear A570
                by_cases c58 : t725 = true
                · subst c58
                  have H1 : (some (decide (a0_4 ≤ a0_5))) = some r := by rw [if_pos rfl] at H; exact H
                  clear H
                  have H := H1
                  clear H1
                  obtain rfl := Option.some.inj H
                  go_enter Try.func249, Try.ntmps249
                  go_wp2_with (first | ((with_reducible refine gate_dst (N := 1) rfl ?_); refine box_event ?hg (N := 1) ?hd (cs := #[.int .i64 a0_0, .int .i64 a0_1, .int .i64 a0_2, .int .i64 a0_3, .int .i64 a0_4, .int .i64 a0_5]) (t := 119) ?hr ?_; (case hd => rfl); (case hg => rfl); (case hr => first | (go_simp; done) | (go_simp; rfl)); intro gb710 hg w59 hbox hb; have n0_ := Aside0.mk (below_step (bb HB.out) hb); have n1_ := Aside0.mk (hbox); have n2_ := Aside0.mk ((by rw [hg]; exact (below_size (bb HB.out)) : w.heap.size ≤ gb710)); have n3_ := Aside0.mk ((by rw [hg]; exact (below_size (bb HB.out)) : w.heap.size ≤ gb710)); clear HB; have HB := n0_; have BK710 := n1_; have GW710 := n2_; have GE710 := n3_; clear n0_ n1_ n2_ n3_; clear hb hbox hg; have hcz60_0 := cz BK710.out 0 (.int .i64 a0_0); have hcz60_1 := cz BK710.out 1 (.int .i64 a0_1); have hcz60_2 := cz BK710.out 2 (.int .i64 a0_2); have hcz60_3 := cz BK710.out 3 (.int .i64 a0_3); have hcz60_4 := cz BK710.out 4 (.int .i64 a0_4); have hcz60_5 := cz BK710.out 5 (.int .i64 a0_5); have hfz60_0 := blk_frozen BK710.out 0; have hfz60_1 := blk_frozen BK710.out 1; have hfz60_2 := blk_frozen BK710.out 2; have hfz60_3 := blk_frozen BK710.out 3; have hfz60_4 := blk_frozen BK710.out 4; have hfz60_5 := blk_frozen BK710.out 5) | ((with_reducible refine gate_callee (f := 239) rfl ?_); refine gm (some 30) Try.func239 #[.int .i64 a0_1, .int .i64 2] ?_; (with_reducible refine (spec_HasKind.calls a0_1 2 true _ A49.out).mono ?_); rintro e w' ⟨rfl, ⟨nd, rfl⟩⟩; refine ⟨_, rfl, ?_⟩) | (go_at_call 96; (with_reducible refine (spec_l1In.calls a0_2 0 3 true _ A51.out).mono ?_); rintro e w' ⟨rfl, ⟨nd, rfl⟩⟩) | (go_at_call 96; (with_reducible refine (spec_l1In.calls a0_3 0 9 true _ A53.out).mono ?_); rintro e w' ⟨rfl, ⟨nd, rfl⟩⟩) | (go_at_call 245; (with_reducible refine (spec_IsTime.calls a0_4 true _ A55.out).mono ?_); rintro e w' ⟨rfl, ⟨nd, rfl⟩⟩) | (go_at_call 245; (with_reducible refine (spec_IsTime.calls a0_5 true _ A57.out).mono ?_); rintro e w' ⟨rfl, ⟨nd, rfl⟩⟩))
                  go_ret
                  exact ⟨by first | rfl | (simp [errW_none, errW_some] <;> rfl) | (simp [*, errW_none, errW_some] <;> rfl), bb HB.out⟩
                · replace c58 := Bool.eq_false_iff.mpr c58
                  subst c58
                  have H1 : (some false) = some r := by rw [if_neg (show ¬ (false = true) by decide)] at H; exact H
                  clear H
                  have H := H1
                  clear H1
                  obtain rfl := Option.some.inj H
                  go_enter Try.func249, Try.ntmps249
                  go_wp2_with (first | ((with_reducible refine gate_dst (N := 1) rfl ?_); refine box_event ?hg (N := 1) ?hd (cs := #[.int .i64 a0_0, .int .i64 a0_1, .int .i64 a0_2, .int .i64 a0_3, .int .i64 a0_4, .int .i64 a0_5]) (t := 119) ?hr ?_; (case hd => rfl); (case hg => rfl); (case hr => first | (go_simp; done) | (go_simp; rfl)); intro gb710 hg w61 hbox hb; have n0_ := Aside0.mk (below_step (bb HB.out) hb); have n1_ := Aside0.mk (hbox); have n2_ := Aside0.mk ((by rw [hg]; exact (below_size (bb HB.out)) : w.heap.size ≤ gb710)); have n3_ := Aside0.mk ((by rw [hg]; exact (below_size (bb HB.out)) : w.heap.size ≤ gb710)); clear HB; have HB := n0_; have BK710 := n1_; have GW710 := n2_; have GE710 := n3_; clear n0_ n1_ n2_ n3_; clear hb hbox hg; have hcz62_0 := cz BK710.out 0 (.int .i64 a0_0); have hcz62_1 := cz BK710.out 1 (.int .i64 a0_1); have hcz62_2 := cz BK710.out 2 (.int .i64 a0_2); have hcz62_3 := cz BK710.out 3 (.int .i64 a0_3); have hcz62_4 := cz BK710.out 4 (.int .i64 a0_4); have hcz62_5 := cz BK710.out 5 (.int .i64 a0_5); have hfz62_0 := blk_frozen BK710.out 0; have hfz62_1 := blk_frozen BK710.out 1; have hfz62_2 := blk_frozen BK710.out 2; have hfz62_3 := blk_frozen BK710.out 3; have hfz62_4 := blk_frozen BK710.out 4; have hfz62_5 := blk_frozen BK710.out 5) | ((with_reducible refine gate_callee (f := 239) rfl ?_); refine gm (some 30) Try.func239 #[.int .i64 a0_1, .int .i64 2] ?_; (with_reducible refine (spec_HasKind.calls a0_1 2 true _ A49.out).mono ?_); rintro e w' ⟨rfl, ⟨nd, rfl⟩⟩; refine ⟨_, rfl, ?_⟩) | (go_at_call 96; (with_reducible refine (spec_l1In.calls a0_2 0 3 true _ A51.out).mono ?_); rintro e w' ⟨rfl, ⟨nd, rfl⟩⟩) | (go_at_call 96; (with_reducible refine (spec_l1In.calls a0_3 0 9 true _ A53.out).mono ?_); rintro e w' ⟨rfl, ⟨nd, rfl⟩⟩) | (go_at_call 245; (with_reducible refine (spec_IsTime.calls a0_4 true _ A55.out).mono ?_); rintro e w' ⟨rfl, ⟨nd, rfl⟩⟩) | (go_at_call 245; (with_reducible refine (spec_IsTime.calls a0_5 false _ A57.out).mono ?_); rintro e w' ⟨rfl, ⟨nd, rfl⟩⟩))
                  go_ret
                  exact ⟨by first | rfl | (simp [errW_none, errW_some] <;> rfl) | (simp [*, errW_none, errW_some] <;> rfl), bb HB.out⟩
              · replace c56 := Bool.eq_false_iff.mpr c56
                subst c56
                have H1 : (some false) = some r := by rw [if_neg (show ¬ (false = true) by decide)] at H; exact H
                clear H
                have H := H1
                clear H1
                obtain rfl := Option.some.inj H
                go_enter Try.func249, Try.ntmps249
                go_wp2_with (first | ((with_reducible refine gate_dst (N := 1) rfl ?_); refine box_event ?hg (N := 1) ?hd (cs := #[.int .i64 a0_0, .int .i64 a0_1, .int .i64 a0_2, .int .i64 a0_3, .int .i64 a0_4, .int .i64 a0_5]) (t := 119) ?hr ?_; (case hd => rfl); (case hg => rfl); (case hr => first | (go_simp; done) | (go_simp; rfl)); intro gb710 hg w63 hbox hb; have n0_ := Aside0.mk (below_step (bb HB.out) hb); have n1_ := Aside0.mk (hbox); have n2_ := Aside0.mk ((by rw [hg]; exact (below_size (bb HB.out)) : w.heap.size ≤ gb710)); have n3_ := Aside0.mk ((by rw [hg]; exact (below_size (bb HB.out)) : w.heap.size ≤ gb710)); clear HB; have HB := n0_; have BK710 := n1_; have GW710 := n2_; have GE710 := n3_; clear n0_ n1_ n2_ n3_; clear hb hbox hg; have hcz64_0 := cz BK710.out 0 (.int .i64 a0_0); have hcz64_1 := cz BK710.out 1 (.int .i64 a0_1); have hcz64_2 := cz BK710.out 2 (.int .i64 a0_2); have hcz64_3 := cz BK710.out 3 (.int .i64 a0_3); have hcz64_4 := cz BK710.out 4 (.int .i64 a0_4); have hcz64_5 := cz BK710.out 5 (.int .i64 a0_5); have hfz64_0 := blk_frozen BK710.out 0; have hfz64_1 := blk_frozen BK710.out 1; have hfz64_2 := blk_frozen BK710.out 2; have hfz64_3 := blk_frozen BK710.out 3; have hfz64_4 := blk_frozen BK710.out 4; have hfz64_5 := blk_frozen BK710.out 5) | ((with_reducible refine gate_callee (f := 239) rfl ?_); refine gm (some 30) Try.func239 #[.int .i64 a0_1, .int .i64 2] ?_; (with_reducible refine (spec_HasKind.calls a0_1 2 true _ A49.out).mono ?_); rintro e w' ⟨rfl, ⟨nd, rfl⟩⟩; refine ⟨_, rfl, ?_⟩) | (go_at_call 96; (with_reducible refine (spec_l1In.calls a0_2 0 3 true _ A51.out).mono ?_); rintro e w' ⟨rfl, ⟨nd, rfl⟩⟩) | (go_at_call 96; (with_reducible refine (spec_l1In.calls a0_3 0 9 true _ A53.out).mono ?_); rintro e w' ⟨rfl, ⟨nd, rfl⟩⟩) | (go_at_call 245; (with_reducible refine (spec_IsTime.calls a0_4 false _ A55.out).mono ?_); rintro e w' ⟨rfl, ⟨nd, rfl⟩⟩))
                go_ret
                exact ⟨by first | rfl | (simp [errW_none, errW_some] <;> rfl) | (simp [*, errW_none, errW_some] <;> rfl), bb HB.out⟩
            · replace c54 := Bool.eq_false_iff.mpr c54
              subst c54
              have H1 : (some false) = some r := by rw [if_neg (show ¬ (false = true) by decide)] at H; exact H
              clear H
              have H := H1
              clear H1
              obtain rfl := Option.some.inj H
              go_enter Try.func249, Try.ntmps249
              go_wp2_with (first | ((with_reducible refine gate_dst (N := 1) rfl ?_); refine box_event ?hg (N := 1) ?hd (cs := #[.int .i64 a0_0, .int .i64 a0_1, .int .i64 a0_2, .int .i64 a0_3, .int .i64 a0_4, .int .i64 a0_5]) (t := 119) ?hr ?_; (case hd => rfl); (case hg => rfl); (case hr => first | (go_simp; done) | (go_simp; rfl)); intro gb710 hg w65 hbox hb; have n0_ := Aside0.mk (below_step (bb HB.out) hb); have n1_ := Aside0.mk (hbox); have n2_ := Aside0.mk ((by rw [hg]; exact (below_size (bb HB.out)) : w.heap.size ≤ gb710)); have n3_ := Aside0.mk ((by rw [hg]; exact (below_size (bb HB.out)) : w.heap.size ≤ gb710)); clear HB; have HB := n0_; have BK710 := n1_; have GW710 := n2_; have GE710 := n3_; clear n0_ n1_ n2_ n3_; clear hb hbox hg; have hcz66_0 := cz BK710.out 0 (.int .i64 a0_0); have hcz66_1 := cz BK710.out 1 (.int .i64 a0_1); have hcz66_2 := cz BK710.out 2 (.int .i64 a0_2); have hcz66_3 := cz BK710.out 3 (.int .i64 a0_3); have hcz66_4 := cz BK710.out 4 (.int .i64 a0_4); have hcz66_5 := cz BK710.out 5 (.int .i64 a0_5); have hfz66_0 := blk_frozen BK710.out 0; have hfz66_1 := blk_frozen BK710.out 1; have hfz66_2 := blk_frozen BK710.out 2; have hfz66_3 := blk_frozen BK710.out 3; have hfz66_4 := blk_frozen BK710.out 4; have hfz66_5 := blk_frozen BK710.out 5) | ((with_reducible refine gate_callee (f := 239) rfl ?_); refine gm (some 30) Try.func239 #[.int .i64 a0_1, .int .i64 2] ?_; (with_reducible refine (spec_HasKind.calls a0_1 2 true _ A49.out).mono ?_); rintro e w' ⟨rfl, ⟨nd, rfl⟩⟩; refine ⟨_, rfl, ?_⟩) | (go_at_call 96; (with_reducible refine (spec_l1In.calls a0_2 0 3 true _ A51.out).mono ?_); rintro e w' ⟨rfl, ⟨nd, rfl⟩⟩) | (go_at_call 96; (with_reducible refine (spec_l1In.calls a0_3 0 9 false _ A53.out).mono ?_); rintro e w' ⟨rfl, ⟨nd, rfl⟩⟩))
              go_ret
              exact ⟨by first | rfl | (simp [errW_none, errW_some] <;> rfl) | (simp [*, errW_none, errW_some] <;> rfl), bb HB.out⟩
          · replace c52 := Bool.eq_false_iff.mpr c52
            subst c52
            have H1 : (some false) = some r := by rw [if_neg (show ¬ (false = true) by decide)] at H; exact H
            clear H
            have H := H1
            clear H1
            obtain rfl := Option.some.inj H
            go_enter Try.func249, Try.ntmps249
            go_wp2_with (first | ((with_reducible refine gate_dst (N := 1) rfl ?_); refine box_event ?hg (N := 1) ?hd (cs := #[.int .i64 a0_0, .int .i64 a0_1, .int .i64 a0_2, .int .i64 a0_3, .int .i64 a0_4, .int .i64 a0_5]) (t := 119) ?hr ?_; (case hd => rfl); (case hg => rfl); (case hr => first | (go_simp; done) | (go_simp; rfl)); intro gb710 hg w67 hbox hb; have n0_ := Aside0.mk (below_step (bb HB.out) hb); have n1_ := Aside0.mk (hbox); have n2_ := Aside0.mk ((by rw [hg]; exact (below_size (bb HB.out)) : w.heap.size ≤ gb710)); have n3_ := Aside0.mk ((by rw [hg]; exact (below_size (bb HB.out)) : w.heap.size ≤ gb710)); clear HB; have HB := n0_; have BK710 := n1_; have GW710 := n2_; have GE710 := n3_; clear n0_ n1_ n2_ n3_; clear hb hbox hg; have hcz68_0 := cz BK710.out 0 (.int .i64 a0_0); have hcz68_1 := cz BK710.out 1 (.int .i64 a0_1); have hcz68_2 := cz BK710.out 2 (.int .i64 a0_2); have hcz68_3 := cz BK710.out 3 (.int .i64 a0_3); have hcz68_4 := cz BK710.out 4 (.int .i64 a0_4); have hcz68_5 := cz BK710.out 5 (.int .i64 a0_5); have hfz68_0 := blk_frozen BK710.out 0; have hfz68_1 := blk_frozen BK710.out 1; have hfz68_2 := blk_frozen BK710.out 2; have hfz68_3 := blk_frozen BK710.out 3; have hfz68_4 := blk_frozen BK710.out 4; have hfz68_5 := blk_frozen BK710.out 5) | ((with_reducible refine gate_callee (f := 239) rfl ?_); refine gm (some 30) Try.func239 #[.int .i64 a0_1, .int .i64 2] ?_; (with_reducible refine (spec_HasKind.calls a0_1 2 true _ A49.out).mono ?_); rintro e w' ⟨rfl, ⟨nd, rfl⟩⟩; refine ⟨_, rfl, ?_⟩) | (go_at_call 96; (with_reducible refine (spec_l1In.calls a0_2 0 3 false _ A51.out).mono ?_); rintro e w' ⟨rfl, ⟨nd, rfl⟩⟩))
            go_ret
            exact ⟨by first | rfl | (simp [errW_none, errW_some] <;> rfl) | (simp [*, errW_none, errW_some] <;> rfl), bb HB.out⟩
        · replace c50 := Bool.eq_false_iff.mpr c50
          subst c50
          have H1 : (some false) = some r := by rw [if_neg (show ¬ (false = true) by decide)] at H; exact H
          clear H
          have H := H1
          clear H1
          obtain rfl := Option.some.inj H
          go_enter Try.func249, Try.ntmps249
          go_wp2_with (first | ((with_reducible refine gate_dst (N := 1) rfl ?_); refine box_event ?hg (N := 1) ?hd (cs := #[.int .i64 a0_0, .int .i64 a0_1, .int .i64 a0_2, .int .i64 a0_3, .int .i64 a0_4, .int .i64 a0_5]) (t := 119) ?hr ?_; (case hd => rfl); (case hg => rfl); (case hr => first | (go_simp; done) | (go_simp; rfl)); intro gb710 hg w69 hbox hb; have n0_ := Aside0.mk (below_step (bb HB.out) hb); have n1_ := Aside0.mk (hbox); have n2_ := Aside0.mk ((by rw [hg]; exact (below_size (bb HB.out)) : w.heap.size ≤ gb710)); have n3_ := Aside0.mk ((by rw [hg]; exact (below_size (bb HB.out)) : w.heap.size ≤ gb710)); clear HB; have HB := n0_; have BK710 := n1_; have GW710 := n2_; have GE710 := n3_; clear n0_ n1_ n2_ n3_; clear hb hbox hg; have hcz70_0 := cz BK710.out 0 (.int .i64 a0_0); have hcz70_1 := cz BK710.out 1 (.int .i64 a0_1); have hcz70_2 := cz BK710.out 2 (.int .i64 a0_2); have hcz70_3 := cz BK710.out 3 (.int .i64 a0_3); have hcz70_4 := cz BK710.out 4 (.int .i64 a0_4); have hcz70_5 := cz BK710.out 5 (.int .i64 a0_5); have hfz70_0 := blk_frozen BK710.out 0; have hfz70_1 := blk_frozen BK710.out 1; have hfz70_2 := blk_frozen BK710.out 2; have hfz70_3 := blk_frozen BK710.out 3; have hfz70_4 := blk_frozen BK710.out 4; have hfz70_5 := blk_frozen BK710.out 5) | ((with_reducible refine gate_callee (f := 239) rfl ?_); refine gm (some 30) Try.func239 #[.int .i64 a0_1, .int .i64 2] ?_; (with_reducible refine (spec_HasKind.calls a0_1 2 false _ A49.out).mono ?_); rintro e w' ⟨rfl, ⟨nd, rfl⟩⟩; refine ⟨_, rfl, ?_⟩))
          go_ret
          exact ⟨by first | rfl | (simp [errW_none, errW_some] <;> rfl) | (simp [*, errW_none, errW_some] <;> rfl), bb HB.out⟩
      · rw [if_neg c48] at H
        have c48b0 : (a0_0 == 3) = false := beq_eq_false_iff_ne.mpr c48
        have c48b1 : (a0_0 != 3) = true := bne_iff_ne.mpr c48
        by_cases c71 : a0_0 = 4
        · rw [if_pos c71] at H
          have c71b0 : (a0_0 == 4) = true := beq_iff_eq.mpr c71
          have c71b1 : (a0_0 != 4) = false := bne_eq_false_iff_eq.mpr c71
          clear c71
          replace H := Option.bind_eq_some_iff.mp H
          obtain ⟨t726, A720, H⟩ := H
          replace H : (if t726 = true then ((spec_l1In.f a0_2 0 3).bind fun t727 => (if t727 = true then ((spec_l1In.f a0_3 0 9).bind fun t728 => (if t728 = true then ((spec_IsTime.f a0_4).bind fun t729 => (if t729 = true then ((spec_IsTime.f a0_5).bind fun t730 => (if t730 = true then (some (decide (a0_4 ≤ a0_5))) else (some false))) else (some false))) else (some false))) else (some false))) else (some false)) = some r := H
          have A72 := Aside0.mk A720
          clear A720
          by_cases c73 : t726 = true
          · subst c73
            have H1 : ((spec_l1In.f a0_2 0 3).bind fun t727 => (if t727 = true then ((spec_l1In.f a0_3 0 9).bind fun t728 => (if t728 = true then ((spec_IsTime.f a0_4).bind fun t729 => (if t729 = true then ((spec_IsTime.f a0_5).bind fun t730 => (if t730 = true then (some (decide (a0_4 ≤ a0_5))) else (some false))) else (some false))) else (some false))) else (some false))) = some r := by rw [if_pos rfl] at H; exact H
            clear H
            have H := H1
            clear H1
            replace H := Option.bind_eq_some_iff.mp H
            obtain ⟨t727, A740, H⟩ := H
            replace H : (if t727 = true then ((spec_l1In.f a0_3 0 9).bind fun t728 => (if t728 = true then ((spec_IsTime.f a0_4).bind fun t729 => (if t729 = true then ((spec_IsTime.f a0_5).bind fun t730 => (if t730 = true then (some (decide (a0_4 ≤ a0_5))) else (some false))) else (some false))) else (some false))) else (some false)) = some r := H
            have A74 := Aside0.mk A740
            clear A740
            by_cases c75 : t727 = true
            · subst c75
              have H1 : ((spec_l1In.f a0_3 0 9).bind fun t728 => (if t728 = true then ((spec_IsTime.f a0_4).bind fun t729 => (if t729 = true then ((spec_IsTime.f a0_5).bind fun t730 => (if t730 = true then (some (decide (a0_4 ≤ a0_5))) else (some false))) else (some false))) else (some false))) = some r := by rw [if_pos rfl] at H; exact H
              clear H
              have H := H1
              clear H1
              replace H := Option.bind_eq_some_iff.mp H
              obtain ⟨t728, A760, H⟩ := H
              replace H : (if t728 = true then ((spec_IsTime.f a0_4).bind fun t729 => (if t729 = true then ((spec_IsTime.f a0_5).bind fun t730 => (if t730 = true then (some (decide (a0_4 ≤ a0_5))) else (some false))) else (some false))) else (some false)) = some r := H
              have A76 := Aside0.mk A760
              clear A760
              by_cases c77 : t728 = true
              · subst c77
                have H1 : ((spec_IsTime.f a0_4).bind fun t729 => (if t729 = true then ((spec_IsTime.f a0_5).bind fun t730 => (if t730 = true then (some (decide (a0_4 ≤ a0_5))) else (some false))) else (some false))) = some r := by rw [if_pos rfl] at H; exact H
                clear H
                have H := H1
                clear H1
                replace H := Option.bind_eq_some_iff.mp H
                obtain ⟨t729, A780, H⟩ := H
                replace H : (if t729 = true then ((spec_IsTime.f a0_5).bind fun t730 => (if t730 = true then (some (decide (a0_4 ≤ a0_5))) else (some false))) else (some false)) = some r := H
                have A78 := Aside0.mk A780
                clear A780
                by_cases c79 : t729 = true
                · subst c79
                  have H1 : ((spec_IsTime.f a0_5).bind fun t730 => (if t730 = true then (some (decide (a0_4 ≤ a0_5))) else (some false))) = some r := by rw [if_pos rfl] at H; exact H
                  clear H
                  have H := H1
                  clear H1
                  replace H := Option.bind_eq_some_iff.mp H
                  obtain ⟨t730, A800, H⟩ := H
                  replace H : (if t730 = true then (some (decide (a0_4 ≤ a0_5))) else (some false)) = some r := H
                  have A80 := Aside0.mk A800
                  clear A800
                  by_cases c81 : t730 = true
                  · subst c81
                    have H1 : (some (decide (a0_4 ≤ a0_5))) = some r := by rw [if_pos rfl] at H; exact H
                    clear H
                    have H := H1
                    clear H1
                    obtain rfl := Option.some.inj H
                    go_enter Try.func249, Try.ntmps249
                    go_wp2_with (first | ((with_reducible refine gate_dst (N := 1) rfl ?_); refine box_event ?hg (N := 1) ?hd (cs := #[.int .i64 a0_0, .int .i64 a0_1, .int .i64 a0_2, .int .i64 a0_3, .int .i64 a0_4, .int .i64 a0_5]) (t := 119) ?hr ?_; (case hd => rfl); (case hg => rfl); (case hr => first | (go_simp; done) | (go_simp; rfl)); intro gb710 hg w82 hbox hb; have n0_ := Aside0.mk (below_step (bb HB.out) hb); have n1_ := Aside0.mk (hbox); have n2_ := Aside0.mk ((by rw [hg]; exact (below_size (bb HB.out)) : w.heap.size ≤ gb710)); have n3_ := Aside0.mk ((by rw [hg]; exact (below_size (bb HB.out)) : w.heap.size ≤ gb710)); clear HB; have HB := n0_; have BK710 := n1_; have GW710 := n2_; have GE710 := n3_; clear n0_ n1_ n2_ n3_; clear hb hbox hg; have hcz83_0 := cz BK710.out 0 (.int .i64 a0_0); have hcz83_1 := cz BK710.out 1 (.int .i64 a0_1); have hcz83_2 := cz BK710.out 2 (.int .i64 a0_2); have hcz83_3 := cz BK710.out 3 (.int .i64 a0_3); have hcz83_4 := cz BK710.out 4 (.int .i64 a0_4); have hcz83_5 := cz BK710.out 5 (.int .i64 a0_5); have hfz83_0 := blk_frozen BK710.out 0; have hfz83_1 := blk_frozen BK710.out 1; have hfz83_2 := blk_frozen BK710.out 2; have hfz83_3 := blk_frozen BK710.out 3; have hfz83_4 := blk_frozen BK710.out 4; have hfz83_5 := blk_frozen BK710.out 5) | ((with_reducible refine gate_callee (f := 239) rfl ?_); refine gm (some 40) Try.func239 #[.int .i64 a0_1, .int .i64 3] ?_; (with_reducible refine (spec_HasKind.calls a0_1 3 true _ A72.out).mono ?_); rintro e w' ⟨rfl, ⟨nd, rfl⟩⟩; refine ⟨_, rfl, ?_⟩) | (go_at_call 96; (with_reducible refine (spec_l1In.calls a0_2 0 3 true _ A74.out).mono ?_); rintro e w' ⟨rfl, ⟨nd, rfl⟩⟩) | (go_at_call 96; (with_reducible refine (spec_l1In.calls a0_3 0 9 true _ A76.out).mono ?_); rintro e w' ⟨rfl, ⟨nd, rfl⟩⟩) | (go_at_call 245; (with_reducible refine (spec_IsTime.calls a0_4 true _ A78.out).mono ?_); rintro e w' ⟨rfl, ⟨nd, rfl⟩⟩) | (go_at_call 245; (with_reducible refine (spec_IsTime.calls a0_5 true _ A80.out).mono ?_); rintro e w' ⟨rfl, ⟨nd, rfl⟩⟩))
                    go_ret
                    exact ⟨by first | rfl | (simp [errW_none, errW_some] <;> rfl) | (simp [*, errW_none, errW_some] <;> rfl), bb HB.out⟩
                  · replace c81 := Bool.eq_false_iff.mpr c81
                    subst c81
                    have H1 : (some false) = some r := by rw [if_neg (show ¬ (false = true) by decide)] at H; exact H
                    clear H
                    have H := H1
                    clear H1
                    obtain rfl := Option.some.inj H
                    go_enter Try.func249, Try.ntmps249
                    go_wp2_with (first | ((with_reducible refine gate_dst (N := 1) rfl ?_); refine box_event ?hg (N := 1) ?hd (cs := #[.int .i64 a0_0, .int .i64 a0_1, .int .i64 a0_2, .int .i64 a0_3, .int .i64 a0_4, .int .i64 a0_5]) (t := 119) ?hr ?_; (case hd => rfl); (case hg => rfl); (case hr => first | (go_simp; done) | (go_simp; rfl)); intro gb710 hg w84 hbox hb; have n0_ := Aside0.mk (below_step (bb HB.out) hb); have n1_ := Aside0.mk (hbox); have n2_ := Aside0.mk ((by rw [hg]; exact (below_size (bb HB.out)) : w.heap.size ≤ gb710)); have n3_ := Aside0.mk ((by rw [hg]; exact (below_size (bb HB.out)) : w.heap.size ≤ gb710)); clear HB; have HB := n0_; have BK710 := n1_; have GW710 := n2_; have GE710 := n3_; clear n0_ n1_ n2_ n3_; clear hb hbox hg; have hcz85_0 := cz BK710.out 0 (.int .i64 a0_0); have hcz85_1 := cz BK710.out 1 (.int .i64 a0_1); have hcz85_2 := cz BK710.out 2 (.int .i64 a0_2); have hcz85_3 := cz BK710.out 3 (.int .i64 a0_3); have hcz85_4 := cz BK710.out 4 (.int .i64 a0_4); have hcz85_5 := cz BK710.out 5 (.int .i64 a0_5); have hfz85_0 := blk_frozen BK710.out 0; have hfz85_1 := blk_frozen BK710.out 1; have hfz85_2 := blk_frozen BK710.out 2; have hfz85_3 := blk_frozen BK710.out 3; have hfz85_4 := blk_frozen BK710.out 4; have hfz85_5 := blk_frozen BK710.out 5) | ((with_reducible refine gate_callee (f := 239) rfl ?_); refine gm (some 40) Try.func239 #[.int .i64 a0_1, .int .i64 3] ?_; (with_reducible refine (spec_HasKind.calls a0_1 3 true _ A72.out).mono ?_); rintro e w' ⟨rfl, ⟨nd, rfl⟩⟩; refine ⟨_, rfl, ?_⟩) | (go_at_call 96; (with_reducible refine (spec_l1In.calls a0_2 0 3 true _ A74.out).mono ?_); rintro e w' ⟨rfl, ⟨nd, rfl⟩⟩) | (go_at_call 96; (with_reducible refine (spec_l1In.calls a0_3 0 9 true _ A76.out).mono ?_); rintro e w' ⟨rfl, ⟨nd, rfl⟩⟩) | (go_at_call 245; (with_reducible refine (spec_IsTime.calls a0_4 true _ A78.out).mono ?_); rintro e w' ⟨rfl, ⟨nd, rfl⟩⟩) | (go_at_call 245; (with_reducible refine (spec_IsTime.calls a0_5 false _ A80.out).mono ?_); rintro e w' ⟨rfl, ⟨nd, rfl⟩⟩))
                    go_ret
                    exact ⟨by first | rfl | (simp [errW_none, errW_some] <;> rfl) | (simp [*, errW_none, errW_some] <;> rfl), bb HB.out⟩
                · replace c79 := Bool.eq_false_iff.mpr c79
                  subst c79
                  have H1 : (some false) = some r := by rw [if_neg (show ¬ (false = true) by decide)] at H; exact H
                  clear H
                  have H := H1
                  clear H1
                  obtain rfl := Option.some.inj H
                  go_enter Try.func249, Try.ntmps249
                  go_wp2_with (first | ((with_reducible refine gate_dst (N := 1) rfl ?_); refine box_event ?hg (N := 1) ?hd (cs := #[.int .i64 a0_0, .int .i64 a0_1, .int .i64 a0_2, .int .i64 a0_3, .int .i64 a0_4, .int .i64 a0_5]) (t := 119) ?hr ?_; (case hd => rfl); (case hg => rfl); (case hr => first | (go_simp; done) | (go_simp; rfl)); intro gb710 hg w86 hbox hb; have n0_ := Aside0.mk (below_step (bb HB.out) hb); have n1_ := Aside0.mk (hbox); have n2_ := Aside0.mk ((by rw [hg]; exact (below_size (bb HB.out)) : w.heap.size ≤ gb710)); have n3_ := Aside0.mk ((by rw [hg]; exact (below_size (bb HB.out)) : w.heap.size ≤ gb710)); clear HB; have HB := n0_; have BK710 := n1_; have GW710 := n2_; have GE710 := n3_; clear n0_ n1_ n2_ n3_; clear hb hbox hg; have hcz87_0 := cz BK710.out 0 (.int .i64 a0_0); have hcz87_1 := cz BK710.out 1 (.int .i64 a0_1); have hcz87_2 := cz BK710.out 2 (.int .i64 a0_2); have hcz87_3 := cz BK710.out 3 (.int .i64 a0_3); have hcz87_4 := cz BK710.out 4 (.int .i64 a0_4); have hcz87_5 := cz BK710.out 5 (.int .i64 a0_5); have hfz87_0 := blk_frozen BK710.out 0; have hfz87_1 := blk_frozen BK710.out 1; have hfz87_2 := blk_frozen BK710.out 2; have hfz87_3 := blk_frozen BK710.out 3; have hfz87_4 := blk_frozen BK710.out 4; have hfz87_5 := blk_frozen BK710.out 5) | ((with_reducible refine gate_callee (f := 239) rfl ?_); refine gm (some 40) Try.func239 #[.int .i64 a0_1, .int .i64 3] ?_; (with_reducible refine (spec_HasKind.calls a0_1 3 true _ A72.out).mono ?_); rintro e w' ⟨rfl, ⟨nd, rfl⟩⟩; refine ⟨_, rfl, ?_⟩) | (go_at_call 96; (with_reducible refine (spec_l1In.calls a0_2 0 3 true _ A74.out).mono ?_); rintro e w' ⟨rfl, ⟨nd, rfl⟩⟩) | (go_at_call 96; (with_reducible refine (spec_l1In.calls a0_3 0 9 true _ A76.out).mono ?_); rintro e w' ⟨rfl, ⟨nd, rfl⟩⟩) | (go_at_call 245; (with_reducible refine (spec_IsTime.calls a0_4 false _ A78.out).mono ?_); rintro e w' ⟨rfl, ⟨nd, rfl⟩⟩))
                  go_ret
                  exact ⟨by first | rfl | (simp [errW_none, errW_some] <;> rfl) | (simp [*, errW_none, errW_some] <;> rfl), bb HB.out⟩
              · replace c77 := Bool.eq_false_iff.mpr c77
                subst c77
                have H1 : (some false) = some r := by rw [if_neg (show ¬ (false = true) by decide)] at H; exact H
                clear H
                have H := H1
                clear H1
                obtain rfl := Option.some.inj H
                go_enter Try.func249, Try.ntmps249
                go_wp2_with (first | ((with_reducible refine gate_dst (N := 1) rfl ?_); refine box_event ?hg (N := 1) ?hd (cs := #[.int .i64 a0_0, .int .i64 a0_1, .int .i64 a0_2, .int .i64 a0_3, .int .i64 a0_4, .int .i64 a0_5]) (t := 119) ?hr ?_; (case hd => rfl); (case hg => rfl); (case hr => first | (go_simp; done) | (go_simp; rfl)); intro gb710 hg w88 hbox hb; have n0_ := Aside0.mk (below_step (bb HB.out) hb); have n1_ := Aside0.mk (hbox); have n2_ := Aside0.mk ((by rw [hg]; exact (below_size (bb HB.out)) : w.heap.size ≤ gb710)); have n3_ := Aside0.mk ((by rw [hg]; exact (below_size (bb HB.out)) : w.heap.size ≤ gb710)); clear HB; have HB := n0_; have BK710 := n1_; have GW710 := n2_; have GE710 := n3_; clear n0_ n1_ n2_ n3_; clear hb hbox hg; have hcz89_0 := cz BK710.out 0 (.int .i64 a0_0); have hcz89_1 := cz BK710.out 1 (.int .i64 a0_1); have hcz89_2 := cz BK710.out 2 (.int .i64 a0_2); have hcz89_3 := cz BK710.out 3 (.int .i64 a0_3); have hcz89_4 := cz BK710.out 4 (.int .i64 a0_4); have hcz89_5 := cz BK710.out 5 (.int .i64 a0_5); have hfz89_0 := blk_frozen BK710.out 0; have hfz89_1 := blk_frozen BK710.out 1; have hfz89_2 := blk_frozen BK710.out 2; have hfz89_3 := blk_frozen BK710.out 3; have hfz89_4 := blk_frozen BK710.out 4; have hfz89_5 := blk_frozen BK710.out 5) | ((with_reducible refine gate_callee (f := 239) rfl ?_); refine gm (some 40) Try.func239 #[.int .i64 a0_1, .int .i64 3] ?_; (with_reducible refine (spec_HasKind.calls a0_1 3 true _ A72.out).mono ?_); rintro e w' ⟨rfl, ⟨nd, rfl⟩⟩; refine ⟨_, rfl, ?_⟩) | (go_at_call 96; (with_reducible refine (spec_l1In.calls a0_2 0 3 true _ A74.out).mono ?_); rintro e w' ⟨rfl, ⟨nd, rfl⟩⟩) | (go_at_call 96; (with_reducible refine (spec_l1In.calls a0_3 0 9 false _ A76.out).mono ?_); rintro e w' ⟨rfl, ⟨nd, rfl⟩⟩))
                go_ret
                exact ⟨by first | rfl | (simp [errW_none, errW_some] <;> rfl) | (simp [*, errW_none, errW_some] <;> rfl), bb HB.out⟩
            · replace c75 := Bool.eq_false_iff.mpr c75
              subst c75
              have H1 : (some false) = some r := by rw [if_neg (show ¬ (false = true) by decide)] at H; exact H
              clear H
              have H := H1
              clear H1
              obtain rfl := Option.some.inj H
              go_enter Try.func249, Try.ntmps249
              go_wp2_with (first | ((with_reducible refine gate_dst (N := 1) rfl ?_); refine box_event ?hg (N := 1) ?hd (cs := #[.int .i64 a0_0, .int .i64 a0_1, .int .i64 a0_2, .int .i64 a0_3, .int .i64 a0_4, .int .i64 a0_5]) (t := 119) ?hr ?_; (case hd => rfl); (case hg => rfl); (case hr => first | (go_simp; done) | (go_simp; rfl)); intro gb710 hg w90 hbox hb; have n0_ := Aside0.mk (below_step (bb HB.out) hb); have n1_ := Aside0.mk (hbox); have n2_ := Aside0.mk ((by rw [hg]; exact (below_size (bb HB.out)) : w.heap.size ≤ gb710)); have n3_ := Aside0.mk ((by rw [hg]; exact (below_size (bb HB.out)) : w.heap.size ≤ gb710)); clear HB; have HB := n0_; have BK710 := n1_; have GW710 := n2_; have GE710 := n3_; clear n0_ n1_ n2_ n3_; clear hb hbox hg; have hcz91_0 := cz BK710.out 0 (.int .i64 a0_0); have hcz91_1 := cz BK710.out 1 (.int .i64 a0_1); have hcz91_2 := cz BK710.out 2 (.int .i64 a0_2); have hcz91_3 := cz BK710.out 3 (.int .i64 a0_3); have hcz91_4 := cz BK710.out 4 (.int .i64 a0_4); have hcz91_5 := cz BK710.out 5 (.int .i64 a0_5); have hfz91_0 := blk_frozen BK710.out 0; have hfz91_1 := blk_frozen BK710.out 1; have hfz91_2 := blk_frozen BK710.out 2; have hfz91_3 := blk_frozen BK710.out 3; have hfz91_4 := blk_frozen BK710.out 4; have hfz91_5 := blk_frozen BK710.out 5) | ((with_reducible refine gate_callee (f := 239) rfl ?_); refine gm (some 40) Try.func239 #[.int .i64 a0_1, .int .i64 3] ?_; (with_reducible refine (spec_HasKind.calls a0_1 3 true _ A72.out).mono ?_); rintro e w' ⟨rfl, ⟨nd, rfl⟩⟩; refine ⟨_, rfl, ?_⟩) | (go_at_call 96; (with_reducible refine (spec_l1In.calls a0_2 0 3 false _ A74.out).mono ?_); rintro e w' ⟨rfl, ⟨nd, rfl⟩⟩))
              go_ret
              exact ⟨by first | rfl | (simp [errW_none, errW_some] <;> rfl) | (simp [*, errW_none, errW_some] <;> rfl), bb HB.out⟩
          · replace c73 := Bool.eq_false_iff.mpr c73
            subst c73
            have H1 : (some false) = some r := by rw [if_neg (show ¬ (false = true) by decide)] at H; exact H
            clear H
            have H := H1
            clear H1
            obtain rfl := Option.some.inj H
            go_enter Try.func249, Try.ntmps249
            go_wp2_with (first | ((with_reducible refine gate_dst (N := 1) rfl ?_); refine box_event ?hg (N := 1) ?hd (cs := #[.int .i64 a0_0, .int .i64 a0_1, .int .i64 a0_2, .int .i64 a0_3, .int .i64 a0_4, .int .i64 a0_5]) (t := 119) ?hr ?_; (case hd => rfl); (case hg => rfl); (case hr => first | (go_simp; done) | (go_simp; rfl)); intro gb710 hg w92 hbox hb; have n0_ := Aside0.mk (below_step (bb HB.out) hb); have n1_ := Aside0.mk (hbox); have n2_ := Aside0.mk ((by rw [hg]; exact (below_size (bb HB.out)) : w.heap.size ≤ gb710)); have n3_ := Aside0.mk ((by rw [hg]; exact (below_size (bb HB.out)) : w.heap.size ≤ gb710)); clear HB; have HB := n0_; have BK710 := n1_; have GW710 := n2_; have GE710 := n3_; clear n0_ n1_ n2_ n3_; clear hb hbox hg; have hcz93_0 := cz BK710.out 0 (.int .i64 a0_0); have hcz93_1 := cz BK710.out 1 (.int .i64 a0_1); have hcz93_2 := cz BK710.out 2 (.int .i64 a0_2); have hcz93_3 := cz BK710.out 3 (.int .i64 a0_3); have hcz93_4 := cz BK710.out 4 (.int .i64 a0_4); have hcz93_5 := cz BK710.out 5 (.int .i64 a0_5); have hfz93_0 := blk_frozen BK710.out 0; have hfz93_1 := blk_frozen BK710.out 1; have hfz93_2 := blk_frozen BK710.out 2; have hfz93_3 := blk_frozen BK710.out 3; have hfz93_4 := blk_frozen BK710.out 4; have hfz93_5 := blk_frozen BK710.out 5) | ((with_reducible refine gate_callee (f := 239) rfl ?_); refine gm (some 40) Try.func239 #[.int .i64 a0_1, .int .i64 3] ?_; (with_reducible refine (spec_HasKind.calls a0_1 3 false _ A72.out).mono ?_); rintro e w' ⟨rfl, ⟨nd, rfl⟩⟩; refine ⟨_, rfl, ?_⟩))
            go_ret
            exact ⟨by first | rfl | (simp [errW_none, errW_some] <;> rfl) | (simp [*, errW_none, errW_some] <;> rfl), bb HB.out⟩
        · rw [if_neg c71] at H
          have c71b0 : (a0_0 == 4) = false := beq_eq_false_iff_ne.mpr c71
          have c71b1 : (a0_0 != 4) = true := bne_iff_ne.mpr c71
          obtain rfl := Option.some.inj H
          go_enter Try.func249, Try.ntmps249
          go_wp2_with (first | ((with_reducible refine gate_dst (N := 1) rfl ?_); refine box_event ?hg (N := 1) ?hd (cs := #[.int .i64 a0_0, .int .i64 a0_1, .int .i64 a0_2, .int .i64 a0_3, .int .i64 a0_4, .int .i64 a0_5]) (t := 119) ?hr ?_; (case hd => rfl); (case hg => rfl); (case hr => first | (go_simp; done) | (go_simp; rfl)); intro gb710 hg w94 hbox hb; have n0_ := Aside0.mk (below_step (bb HB.out) hb); have n1_ := Aside0.mk (hbox); have n2_ := Aside0.mk ((by rw [hg]; exact (below_size (bb HB.out)) : w.heap.size ≤ gb710)); have n3_ := Aside0.mk ((by rw [hg]; exact (below_size (bb HB.out)) : w.heap.size ≤ gb710)); clear HB; have HB := n0_; have BK710 := n1_; have GW710 := n2_; have GE710 := n3_; clear n0_ n1_ n2_ n3_; clear hb hbox hg; have hcz95_0 := cz BK710.out 0 (.int .i64 a0_0); have hcz95_1 := cz BK710.out 1 (.int .i64 a0_1); have hcz95_2 := cz BK710.out 2 (.int .i64 a0_2); have hcz95_3 := cz BK710.out 3 (.int .i64 a0_3); have hcz95_4 := cz BK710.out 4 (.int .i64 a0_4); have hcz95_5 := cz BK710.out 5 (.int .i64 a0_5); have hfz95_0 := blk_frozen BK710.out 0; have hfz95_1 := blk_frozen BK710.out 1; have hfz95_2 := blk_frozen BK710.out 2; have hfz95_3 := blk_frozen BK710.out 3; have hfz95_4 := blk_frozen BK710.out 4; have hfz95_5 := blk_frozen BK710.out 5))
          go_ret
          exact ⟨by first | rfl | (simp [errW_none, errW_some] <;> rfl) | (simp [*, errW_none, errW_some] <;> rfl), bb HB.out⟩
def spec_IsWithin.f (a0 : Int) (a1 : Int) (a2 : Int) : Option (Bool) := (spec_IsTime.f a0).bind fun t731 => (if t731 = true then ((spec_IsTime.f a1).bind fun t732 => (if t732 = true then ((spec_IsTime.f a2).bind fun t733 => (if t733 = true then (if a0 ≤ a2 then (some (decide (a2 ≤ a1))) else (some false)) else (some false))) else (some false))) else (some false))
set_option maxHeartbeats 8000000 in
set_option maxRecDepth 100000 in
theorem spec_IsWithin.calls (a0 : Int) (a1 : Int) (a2 : Int) (r : Bool) (w : World) (h : spec_IsWithin.f a0 a1 a2 = some r) :
    Calls Try.prog 250 #[.int .i64 a0, .int .i64 a1, .int .i64 a2] w fun e w' => e = .returned (.bool r) ∧ Drawn0 w w' := by
  have H : ((spec_IsTime.f a0).bind fun t731 => (if t731 = true then ((spec_IsTime.f a1).bind fun t732 => (if t732 = true then ((spec_IsTime.f a2).bind fun t733 => (if t733 = true then (if a0 ≤ a2 then (some (decide (a2 ≤ a1))) else (some false)) else (some false))) else (some false))) else (some false))) = some r := h
  clear h
  replace H := Option.bind_eq_some_iff.mp H
  obtain ⟨t731, A40, H⟩ := H
  replace H : (if t731 = true then ((spec_IsTime.f a1).bind fun t732 => (if t732 = true then ((spec_IsTime.f a2).bind fun t733 => (if t733 = true then (if a0 ≤ a2 then (some (decide (a2 ≤ a1))) else (some false)) else (some false))) else (some false))) else (some false)) = some r := H
  have A4 := Aside0.mk A40
  clear A40
  by_cases c5 : t731 = true
  · subst c5
    have H1 : ((spec_IsTime.f a1).bind fun t732 => (if t732 = true then ((spec_IsTime.f a2).bind fun t733 => (if t733 = true then (if a0 ≤ a2 then (some (decide (a2 ≤ a1))) else (some false)) else (some false))) else (some false))) = some r := by rw [if_pos rfl] at H; exact H
    clear H
    have H := H1
    clear H1
    replace H := Option.bind_eq_some_iff.mp H
    obtain ⟨t732, A60, H⟩ := H
    replace H : (if t732 = true then ((spec_IsTime.f a2).bind fun t733 => (if t733 = true then (if a0 ≤ a2 then (some (decide (a2 ≤ a1))) else (some false)) else (some false))) else (some false)) = some r := H
    have A6 := Aside0.mk A60
    clear A60
    by_cases c7 : t732 = true
    · subst c7
      have H1 : ((spec_IsTime.f a2).bind fun t733 => (if t733 = true then (if a0 ≤ a2 then (some (decide (a2 ≤ a1))) else (some false)) else (some false))) = some r := by rw [if_pos rfl] at H; exact H
      clear H
      have H := H1
      clear H1
      replace H := Option.bind_eq_some_iff.mp H
      obtain ⟨t733, A80, H⟩ := H
      replace H : (if t733 = true then (if a0 ≤ a2 then (some (decide (a2 ≤ a1))) else (some false)) else (some false)) = some r := H
      have A8 := Aside0.mk A80
      clear A80
      by_cases c9 : t733 = true
      · subst c9
        have H1 : (if a0 ≤ a2 then (some (decide (a2 ≤ a1))) else (some false)) = some r := by rw [if_pos rfl] at H; exact H
        clear H
        have H := H1
        clear H1
        by_cases c10 : a0 ≤ a2
        · rw [if_pos c10] at H
          have c10b0 : decide (a0 ≤ a2) = true := decide_eq_true c10
          clear c10
          obtain rfl := Option.some.inj H
          go_enter Try.func250, Try.ntmps250
          go_wp2_with (first | ((with_reducible refine gate_callee (f := 245) rfl ?_); refine gm (some 8) Try.func245 #[.int .i64 a0] ?_; (with_reducible refine (spec_IsTime.calls a0 true _ A4.out).mono ?_); rintro e w' ⟨rfl, ⟨nd, rfl⟩⟩; refine ⟨_, rfl, ?_⟩) | (go_at_call 245; (with_reducible refine (spec_IsTime.calls a1 true _ A6.out).mono ?_); rintro e w' ⟨rfl, ⟨nd, rfl⟩⟩) | (go_at_call 245; (with_reducible refine (spec_IsTime.calls a2 true _ A8.out).mono ?_); rintro e w' ⟨rfl, ⟨nd, rfl⟩⟩))
          go_ret
          exact ⟨by first | rfl | (simp; done) | (simp [*]; done), by repeat (first | exact Drawn0.refl _ | apply Drawn0.step)⟩
        · rw [if_neg c10] at H
          have c10b0 : decide (a0 ≤ a2) = false := decide_eq_false c10
          clear c10
          obtain rfl := Option.some.inj H
          go_enter Try.func250, Try.ntmps250
          go_wp2_with (first | ((with_reducible refine gate_callee (f := 245) rfl ?_); refine gm (some 8) Try.func245 #[.int .i64 a0] ?_; (with_reducible refine (spec_IsTime.calls a0 true _ A4.out).mono ?_); rintro e w' ⟨rfl, ⟨nd, rfl⟩⟩; refine ⟨_, rfl, ?_⟩) | (go_at_call 245; (with_reducible refine (spec_IsTime.calls a1 true _ A6.out).mono ?_); rintro e w' ⟨rfl, ⟨nd, rfl⟩⟩) | (go_at_call 245; (with_reducible refine (spec_IsTime.calls a2 true _ A8.out).mono ?_); rintro e w' ⟨rfl, ⟨nd, rfl⟩⟩))
          go_ret
          exact ⟨by first | rfl | (simp; done) | (simp [*]; done), by repeat (first | exact Drawn0.refl _ | apply Drawn0.step)⟩
      · replace c9 := Bool.eq_false_iff.mpr c9
        subst c9
        have H1 : (some false) = some r := by rw [if_neg (show ¬ (false = true) by decide)] at H; exact H
        clear H
        have H := H1
        clear H1
        obtain rfl := Option.some.inj H
        go_enter Try.func250, Try.ntmps250
        go_wp2_with (first | ((with_reducible refine gate_callee (f := 245) rfl ?_); refine gm (some 8) Try.func245 #[.int .i64 a0] ?_; (with_reducible refine (spec_IsTime.calls a0 true _ A4.out).mono ?_); rintro e w' ⟨rfl, ⟨nd, rfl⟩⟩; refine ⟨_, rfl, ?_⟩) | (go_at_call 245; (with_reducible refine (spec_IsTime.calls a1 true _ A6.out).mono ?_); rintro e w' ⟨rfl, ⟨nd, rfl⟩⟩) | (go_at_call 245; (with_reducible refine (spec_IsTime.calls a2 false _ A8.out).mono ?_); rintro e w' ⟨rfl, ⟨nd, rfl⟩⟩))
        go_ret
        exact ⟨by first | rfl | (simp; done) | (simp [*]; done), by repeat (first | exact Drawn0.refl _ | apply Drawn0.step)⟩
    · replace c7 := Bool.eq_false_iff.mpr c7
      subst c7
      have H1 : (some false) = some r := by rw [if_neg (show ¬ (false = true) by decide)] at H; exact H
      clear H
      have H := H1
      clear H1
      obtain rfl := Option.some.inj H
      go_enter Try.func250, Try.ntmps250
      go_wp2_with (first | ((with_reducible refine gate_callee (f := 245) rfl ?_); refine gm (some 8) Try.func245 #[.int .i64 a0] ?_; (with_reducible refine (spec_IsTime.calls a0 true _ A4.out).mono ?_); rintro e w' ⟨rfl, ⟨nd, rfl⟩⟩; refine ⟨_, rfl, ?_⟩) | (go_at_call 245; (with_reducible refine (spec_IsTime.calls a1 false _ A6.out).mono ?_); rintro e w' ⟨rfl, ⟨nd, rfl⟩⟩))
      go_ret
      exact ⟨by first | rfl | (simp; done) | (simp [*]; done), by repeat (first | exact Drawn0.refl _ | apply Drawn0.step)⟩
  · replace c5 := Bool.eq_false_iff.mpr c5
    subst c5
    have H1 : (some false) = some r := by rw [if_neg (show ¬ (false = true) by decide)] at H; exact H
    clear H
    have H := H1
    clear H1
    obtain rfl := Option.some.inj H
    go_enter Try.func250, Try.ntmps250
    go_wp2_with (first | ((with_reducible refine gate_callee (f := 245) rfl ?_); refine gm (some 8) Try.func245 #[.int .i64 a0] ?_; (with_reducible refine (spec_IsTime.calls a0 false _ A4.out).mono ?_); rintro e w' ⟨rfl, ⟨nd, rfl⟩⟩; refine ⟨_, rfl, ?_⟩))
    go_ret
    exact ⟨by first | rfl | (simp; done) | (simp [*]; done), by repeat (first | exact Drawn0.refl _ | apply Drawn0.step)⟩
def spec_AgeOf.f (a0 : Int) (a1 : Int) : Option (Int) := (spec_IsTime.f a0).bind fun t734 => (if t734 = true then ((spec_IsTime.f a1).bind fun t735 => (if t735 = true then (if a0 > a1 then (some (-1)) else (some (wrap64 (a1 - a0)))) else (some (-1)))) else (some (-1)))
set_option maxHeartbeats 8000000 in
set_option maxRecDepth 100000 in
theorem spec_AgeOf.calls (a0 : Int) (a1 : Int) (r : Int) (w : World) (h : spec_AgeOf.f a0 a1 = some r) :
    Calls Try.prog 277 #[.int .i64 a0, .int .i64 a1] w fun e w' => e = .returned (.int .i64 r) ∧ Drawn0 w w' := by
  have H : ((spec_IsTime.f a0).bind fun t734 => (if t734 = true then ((spec_IsTime.f a1).bind fun t735 => (if t735 = true then (if a0 > a1 then (some (-1)) else (some (wrap64 (a1 - a0)))) else (some (-1)))) else (some (-1)))) = some r := h
  clear h
  replace H := Option.bind_eq_some_iff.mp H
  obtain ⟨t734, A30, H⟩ := H
  replace H : (if t734 = true then ((spec_IsTime.f a1).bind fun t735 => (if t735 = true then (if a0 > a1 then (some (-1)) else (some (wrap64 (a1 - a0)))) else (some (-1)))) else (some (-1))) = some r := H
  have A3 := Aside0.mk A30
  clear A30
  by_cases c4 : t734 = true
  · subst c4
    have H1 : ((spec_IsTime.f a1).bind fun t735 => (if t735 = true then (if a0 > a1 then (some (-1)) else (some (wrap64 (a1 - a0)))) else (some (-1)))) = some r := by rw [if_pos rfl] at H; exact H
    clear H
    have H := H1
    clear H1
    replace H := Option.bind_eq_some_iff.mp H
    obtain ⟨t735, A50, H⟩ := H
    replace H : (if t735 = true then (if a0 > a1 then (some (-1)) else (some (wrap64 (a1 - a0)))) else (some (-1))) = some r := H
    have A5 := Aside0.mk A50
    clear A50
    by_cases c6 : t735 = true
    · subst c6
      have H1 : (if a0 > a1 then (some (-1)) else (some (wrap64 (a1 - a0)))) = some r := by rw [if_pos rfl] at H; exact H
      clear H
      have H := H1
      clear H1
      by_cases c7 : a0 > a1
      · rw [if_pos c7] at H
        have c7b0 : decide (a1 < a0) = true := decide_eq_true c7
        clear c7
        obtain rfl := Option.some.inj H
        go_enter Try.func277, Try.ntmps277
        go_wp2_with (first | ((with_reducible refine gate_callee (f := 245) rfl ?_); refine gm (some 6) Try.func245 #[.int .i64 a0] ?_; (with_reducible refine (spec_IsTime.calls a0 true _ A3.out).mono ?_); rintro e w' ⟨rfl, ⟨nd, rfl⟩⟩; refine ⟨_, rfl, ?_⟩) | (go_at_call 245; (with_reducible refine (spec_IsTime.calls a1 true _ A5.out).mono ?_); rintro e w' ⟨rfl, ⟨nd, rfl⟩⟩))
        go_ret
        exact ⟨by first | rfl | (simp; done) | (simp [*]; done), by repeat (first | exact Drawn0.refl _ | apply Drawn0.step)⟩
      · rw [if_neg c7] at H
        have c7b0 : decide (a1 < a0) = false := decide_eq_false c7
        clear c7
        obtain rfl := Option.some.inj H
        go_enter Try.func277, Try.ntmps277
        go_wp2_with (first | ((with_reducible refine gate_callee (f := 245) rfl ?_); refine gm (some 6) Try.func245 #[.int .i64 a0] ?_; (with_reducible refine (spec_IsTime.calls a0 true _ A3.out).mono ?_); rintro e w' ⟨rfl, ⟨nd, rfl⟩⟩; refine ⟨_, rfl, ?_⟩) | (go_at_call 245; (with_reducible refine (spec_IsTime.calls a1 true _ A5.out).mono ?_); rintro e w' ⟨rfl, ⟨nd, rfl⟩⟩))
        go_ret
        exact ⟨by first | rfl | (simp; done) | (simp [*]; done), by repeat (first | exact Drawn0.refl _ | apply Drawn0.step)⟩
    · replace c6 := Bool.eq_false_iff.mpr c6
      subst c6
      have H1 : (some (-1)) = some r := by rw [if_neg (show ¬ (false = true) by decide)] at H; exact H
      clear H
      have H := H1
      clear H1
      obtain rfl := Option.some.inj H
      go_enter Try.func277, Try.ntmps277
      go_wp2_with (first | ((with_reducible refine gate_callee (f := 245) rfl ?_); refine gm (some 6) Try.func245 #[.int .i64 a0] ?_; (with_reducible refine (spec_IsTime.calls a0 true _ A3.out).mono ?_); rintro e w' ⟨rfl, ⟨nd, rfl⟩⟩; refine ⟨_, rfl, ?_⟩) | (go_at_call 245; (with_reducible refine (spec_IsTime.calls a1 false _ A5.out).mono ?_); rintro e w' ⟨rfl, ⟨nd, rfl⟩⟩))
      go_ret
      exact ⟨by first | rfl | (simp; done) | (simp [*]; done), by repeat (first | exact Drawn0.refl _ | apply Drawn0.step)⟩
  · replace c4 := Bool.eq_false_iff.mpr c4
    subst c4
    have H1 : (some (-1)) = some r := by rw [if_neg (show ¬ (false = true) by decide)] at H; exact H
    clear H
    have H := H1
    clear H1
    obtain rfl := Option.some.inj H
    go_enter Try.func277, Try.ntmps277
    go_wp2_with (first | ((with_reducible refine gate_callee (f := 245) rfl ?_); refine gm (some 6) Try.func245 #[.int .i64 a0] ?_; (with_reducible refine (spec_IsTime.calls a0 false _ A3.out).mono ?_); rintro e w' ⟨rfl, ⟨nd, rfl⟩⟩; refine ⟨_, rfl, ?_⟩))
    go_ret
    exact ⟨by first | rfl | (simp; done) | (simp [*]; done), by repeat (first | exact Drawn0.refl _ | apply Drawn0.step)⟩
def spec_IsFresh.f (a0 : Int) (a1 : Int) (a2 : Int) : Option (Bool) := (spec_AgeOf.f a0 a1).bind fun t736 => (if t736 ≥ 0 then (some (decide (t736 ≤ a2))) else (some false))
set_option maxHeartbeats 8000000 in
set_option maxRecDepth 100000 in
theorem spec_IsFresh.calls (a0 : Int) (a1 : Int) (a2 : Int) (r : Bool) (w : World) (h : spec_IsFresh.f a0 a1 a2 = some r) :
    Calls Try.prog 251 #[.int .i64 a0, .int .i64 a1, .int .i64 a2] w fun e w' => e = .returned (.bool r) ∧ Drawn0 w w' := by
  have H : ((spec_AgeOf.f a0 a1).bind fun t736 => (if t736 ≥ 0 then (some (decide (t736 ≤ a2))) else (some false))) = some r := h
  clear h
  replace H := Option.bind_eq_some_iff.mp H
  obtain ⟨t736, A40, H⟩ := H
  replace H : (if t736 ≥ 0 then (some (decide (t736 ≤ a2))) else (some false)) = some r := H
  have A4 := Aside0.mk A40
  clear A40
  by_cases c5 : t736 ≥ 0
  · rw [if_pos c5] at H
    have c5b0 : decide (0 ≤ t736) = true := decide_eq_true c5
    clear c5
    obtain rfl := Option.some.inj H
    go_enter Try.func251, Try.ntmps251
    go_wp2_with (first | ((with_reducible refine gate_callee (f := 277) rfl ?_); refine gm (some 10) Try.func277 #[.int .i64 a0, .int .i64 a1] ?_; (with_reducible refine (spec_AgeOf.calls a0 a1 t736 _ A4.out).mono ?_); rintro e w' ⟨rfl, ⟨nd, rfl⟩⟩; refine ⟨_, rfl, ?_⟩))
    go_ret
    exact ⟨by first | rfl | (simp; done) | (simp [*]; done), by repeat (first | exact Drawn0.refl _ | apply Drawn0.step)⟩
  · rw [if_neg c5] at H
    have c5b0 : decide (0 ≤ t736) = false := decide_eq_false c5
    clear c5
    obtain rfl := Option.some.inj H
    go_enter Try.func251, Try.ntmps251
    go_wp2_with (first | ((with_reducible refine gate_callee (f := 277) rfl ?_); refine gm (some 10) Try.func277 #[.int .i64 a0, .int .i64 a1] ?_; (with_reducible refine (spec_AgeOf.calls a0 a1 t736 _ A4.out).mono ?_); rintro e w' ⟨rfl, ⟨nd, rfl⟩⟩; refine ⟨_, rfl, ?_⟩))
    go_ret
    exact ⟨by first | rfl | (simp; done) | (simp [*]; done), by repeat (first | exact Drawn0.refl _ | apply Drawn0.step)⟩
def spec_HoldsAt.f (a0_0 : Int) (a0_1 : Int) (a0_2 : Int) (a0_3 : Int) (a0_4 : Int) (a0_5 : Int) (a1 : Int) (a2 : Int) : Option (Bool) := (spec_IsFact.f a0_0 a0_1 a0_2 a0_3 a0_4 a0_5).bind fun t738 => (if t738 = true then ((spec_IsWithin.f a0_4 a0_5 a1).bind fun t739 => (if t739 = true then ((spec_IsFresh.f a0_4 a1 a2).bind fun t740 => (some t740)) else (some false))) else (some false))
set_option maxHeartbeats 8000000 in
set_option maxRecDepth 100000 in
theorem spec_HoldsAt.calls (a0_0 : Int) (a0_1 : Int) (a0_2 : Int) (a0_3 : Int) (a0_4 : Int) (a0_5 : Int) (a1 : Int) (a2 : Int) (r : Bool) (w : World) (h : spec_HoldsAt.f a0_0 a0_1 a0_2 a0_3 a0_4 a0_5 a1 a2 = some r) :
    Calls Try.prog 203 #[.agg #[.int .i64 a0_0, .int .i64 a0_1, .int .i64 a0_2, .int .i64 a0_3, .int .i64 a0_4, .int .i64 a0_5], .int .i64 a1, .int .i64 a2] w fun e w' => e = .returned (.bool r) ∧ Below w.heap.size w w' := by
  have hu119 := Try.underlying119
  have HB := Aside0.mk (Below.refl w.heap.size w)
  have H : ((spec_IsFact.f a0_0 a0_1 a0_2 a0_3 a0_4 a0_5).bind fun t738 => (if t738 = true then ((spec_IsWithin.f a0_4 a0_5 a1).bind fun t739 => (if t739 = true then ((spec_IsFresh.f a0_4 a1 a2).bind fun t740 => (some t740)) else (some false))) else (some false))) = some r := h
  clear h
  replace H := Option.bind_eq_some_iff.mp H
  obtain ⟨t738, A40, H⟩ := H
  replace H : (if t738 = true then ((spec_IsWithin.f a0_4 a0_5 a1).bind fun t739 => (if t739 = true then ((spec_IsFresh.f a0_4 a1 a2).bind fun t740 => (some t740)) else (some false))) else (some false)) = some r := H
  have A4 := Aside0.mk A40
  clear A40
  by_cases c5 : t738 = true
  · subst c5
    have H1 : ((spec_IsWithin.f a0_4 a0_5 a1).bind fun t739 => (if t739 = true then ((spec_IsFresh.f a0_4 a1 a2).bind fun t740 => (some t740)) else (some false))) = some r := by rw [if_pos rfl] at H; exact H
    clear H
    have H := H1
    clear H1
    replace H := Option.bind_eq_some_iff.mp H
    obtain ⟨t739, A60, H⟩ := H
    replace H : (if t739 = true then ((spec_IsFresh.f a0_4 a1 a2).bind fun t740 => (some t740)) else (some false)) = some r := H
    have A6 := Aside0.mk A60
    clear A60
    by_cases c7 : t739 = true
    · subst c7
      have H1 : ((spec_IsFresh.f a0_4 a1 a2).bind fun t740 => (some t740)) = some r := by rw [if_pos rfl] at H; exact H
      clear H
      have H := H1
      clear H1
      replace H := Option.bind_eq_some_iff.mp H
      obtain ⟨t740, A80, H⟩ := H
      replace H : (some t740) = some r := H
      have A8 := Aside0.mk A80
      clear A80
      obtain rfl := Option.some.inj H
      go_enter Try.func203, Try.ntmps203
      go_wp2_with (first | ((with_reducible refine gate_dst (N := 3) rfl ?_); refine box_event ?hg (N := 3) ?hd (cs := #[.int .i64 a0_0, .int .i64 a0_1, .int .i64 a0_2, .int .i64 a0_3, .int .i64 a0_4, .int .i64 a0_5]) (t := 119) ?hr ?_; (case hd => rfl); (case hg => rfl); (case hr => first | (go_simp; done) | (go_simp; rfl)); intro gb737 hg w9 hbox hb; have n0_ := Aside0.mk (below_step (bb HB.out) hb); have n1_ := Aside0.mk (hbox); have n2_ := Aside0.mk ((by rw [hg]; exact (below_size (bb HB.out)) : w.heap.size ≤ gb737)); have n3_ := Aside0.mk ((by rw [hg]; exact (below_size (bb HB.out)) : w.heap.size ≤ gb737)); clear HB; have HB := n0_; have BK737 := n1_; have GW737 := n2_; have GE737 := n3_; clear n0_ n1_ n2_ n3_; clear hb hbox hg; have hcz10_0 := cz BK737.out 0 (.int .i64 a0_0); have hcz10_1 := cz BK737.out 1 (.int .i64 a0_1); have hcz10_2 := cz BK737.out 2 (.int .i64 a0_2); have hcz10_3 := cz BK737.out 3 (.int .i64 a0_3); have hcz10_4 := cz BK737.out 4 (.int .i64 a0_4); have hcz10_5 := cz BK737.out 5 (.int .i64 a0_5); have hfz10_0 := blk_frozen BK737.out 0; have hfz10_1 := blk_frozen BK737.out 1; have hfz10_2 := blk_frozen BK737.out 2; have hfz10_3 := blk_frozen BK737.out 3; have hfz10_4 := blk_frozen BK737.out 4; have hfz10_5 := blk_frozen BK737.out 5) | ((with_reducible refine gate_callee (f := 249) rfl ?_); refine gm (some 8) Try.func249 #[.agg #[.int .i64 a0_0, .int .i64 a0_1, .int .i64 a0_2, .int .i64 a0_3, .int .i64 a0_4, .int .i64 a0_5]] ?_; (with_reducible refine (spec_IsFact.calls a0_0 a0_1 a0_2 a0_3 a0_4 a0_5 true _ A4.out).mono ?_); rintro e w11 ⟨rfl, hb⟩; refine ⟨_, rfl, ?_⟩; have n0_ := Aside0.mk (blk_below (rb BK737.out) hb); have n1_ := Aside0.mk (below_step (bb HB.out) hb); clear BK737; clear HB; have BK737 := n0_; have HB := n1_; clear n0_ n1_; (try clear hb); (try clear hb2); (try clear hk); (try clear hi); have hcz12_0 := cz BK737.out 0 (.int .i64 a0_0); have hcz12_1 := cz BK737.out 1 (.int .i64 a0_1); have hcz12_2 := cz BK737.out 2 (.int .i64 a0_2); have hcz12_3 := cz BK737.out 3 (.int .i64 a0_3); have hcz12_4 := cz BK737.out 4 (.int .i64 a0_4); have hcz12_5 := cz BK737.out 5 (.int .i64 a0_5); have hfz12_0 := blk_frozen BK737.out 0; have hfz12_1 := blk_frozen BK737.out 1; have hfz12_2 := blk_frozen BK737.out 2; have hfz12_3 := blk_frozen BK737.out 3; have hfz12_4 := blk_frozen BK737.out 4; have hfz12_5 := blk_frozen BK737.out 5) | (go_at_call 250; (with_reducible refine (spec_IsWithin.calls a0_4 a0_5 a1 true _ A6.out).mono ?_); rintro e w' ⟨rfl, ⟨nd, rfl⟩⟩) | (go_at_call 251; (with_reducible refine (spec_IsFresh.calls a0_4 a1 a2 t740 _ A8.out).mono ?_); rintro e w' ⟨rfl, ⟨nd, rfl⟩⟩))
      go_ret
      exact ⟨by first | rfl | (simp [errW_none, errW_some] <;> rfl) | (simp [*, errW_none, errW_some] <;> rfl), bb HB.out⟩
    · replace c7 := Bool.eq_false_iff.mpr c7
      subst c7
      have H1 : (some false) = some r := by rw [if_neg (show ¬ (false = true) by decide)] at H; exact H
      clear H
      have H := H1
      clear H1
      obtain rfl := Option.some.inj H
      go_enter Try.func203, Try.ntmps203
      go_wp2_with (first | ((with_reducible refine gate_dst (N := 3) rfl ?_); refine box_event ?hg (N := 3) ?hd (cs := #[.int .i64 a0_0, .int .i64 a0_1, .int .i64 a0_2, .int .i64 a0_3, .int .i64 a0_4, .int .i64 a0_5]) (t := 119) ?hr ?_; (case hd => rfl); (case hg => rfl); (case hr => first | (go_simp; done) | (go_simp; rfl)); intro gb737 hg w13 hbox hb; have n0_ := Aside0.mk (below_step (bb HB.out) hb); have n1_ := Aside0.mk (hbox); have n2_ := Aside0.mk ((by rw [hg]; exact (below_size (bb HB.out)) : w.heap.size ≤ gb737)); have n3_ := Aside0.mk ((by rw [hg]; exact (below_size (bb HB.out)) : w.heap.size ≤ gb737)); clear HB; have HB := n0_; have BK737 := n1_; have GW737 := n2_; have GE737 := n3_; clear n0_ n1_ n2_ n3_; clear hb hbox hg; have hcz14_0 := cz BK737.out 0 (.int .i64 a0_0); have hcz14_1 := cz BK737.out 1 (.int .i64 a0_1); have hcz14_2 := cz BK737.out 2 (.int .i64 a0_2); have hcz14_3 := cz BK737.out 3 (.int .i64 a0_3); have hcz14_4 := cz BK737.out 4 (.int .i64 a0_4); have hcz14_5 := cz BK737.out 5 (.int .i64 a0_5); have hfz14_0 := blk_frozen BK737.out 0; have hfz14_1 := blk_frozen BK737.out 1; have hfz14_2 := blk_frozen BK737.out 2; have hfz14_3 := blk_frozen BK737.out 3; have hfz14_4 := blk_frozen BK737.out 4; have hfz14_5 := blk_frozen BK737.out 5) | ((with_reducible refine gate_callee (f := 249) rfl ?_); refine gm (some 8) Try.func249 #[.agg #[.int .i64 a0_0, .int .i64 a0_1, .int .i64 a0_2, .int .i64 a0_3, .int .i64 a0_4, .int .i64 a0_5]] ?_; (with_reducible refine (spec_IsFact.calls a0_0 a0_1 a0_2 a0_3 a0_4 a0_5 true _ A4.out).mono ?_); rintro e w15 ⟨rfl, hb⟩; refine ⟨_, rfl, ?_⟩; have n0_ := Aside0.mk (blk_below (rb BK737.out) hb); have n1_ := Aside0.mk (below_step (bb HB.out) hb); clear BK737; clear HB; have BK737 := n0_; have HB := n1_; clear n0_ n1_; (try clear hb); (try clear hb2); (try clear hk); (try clear hi); have hcz16_0 := cz BK737.out 0 (.int .i64 a0_0); have hcz16_1 := cz BK737.out 1 (.int .i64 a0_1); have hcz16_2 := cz BK737.out 2 (.int .i64 a0_2); have hcz16_3 := cz BK737.out 3 (.int .i64 a0_3); have hcz16_4 := cz BK737.out 4 (.int .i64 a0_4); have hcz16_5 := cz BK737.out 5 (.int .i64 a0_5); have hfz16_0 := blk_frozen BK737.out 0; have hfz16_1 := blk_frozen BK737.out 1; have hfz16_2 := blk_frozen BK737.out 2; have hfz16_3 := blk_frozen BK737.out 3; have hfz16_4 := blk_frozen BK737.out 4; have hfz16_5 := blk_frozen BK737.out 5) | (go_at_call 250; (with_reducible refine (spec_IsWithin.calls a0_4 a0_5 a1 false _ A6.out).mono ?_); rintro e w' ⟨rfl, ⟨nd, rfl⟩⟩))
      go_ret
      exact ⟨by first | rfl | (simp [errW_none, errW_some] <;> rfl) | (simp [*, errW_none, errW_some] <;> rfl), bb HB.out⟩
  · replace c5 := Bool.eq_false_iff.mpr c5
    subst c5
    have H1 : (some false) = some r := by rw [if_neg (show ¬ (false = true) by decide)] at H; exact H
    clear H
    have H := H1
    clear H1
    obtain rfl := Option.some.inj H
    go_enter Try.func203, Try.ntmps203
    go_wp2_with (first | ((with_reducible refine gate_dst (N := 3) rfl ?_); refine box_event ?hg (N := 3) ?hd (cs := #[.int .i64 a0_0, .int .i64 a0_1, .int .i64 a0_2, .int .i64 a0_3, .int .i64 a0_4, .int .i64 a0_5]) (t := 119) ?hr ?_; (case hd => rfl); (case hg => rfl); (case hr => first | (go_simp; done) | (go_simp; rfl)); intro gb737 hg w17 hbox hb; have n0_ := Aside0.mk (below_step (bb HB.out) hb); have n1_ := Aside0.mk (hbox); have n2_ := Aside0.mk ((by rw [hg]; exact (below_size (bb HB.out)) : w.heap.size ≤ gb737)); have n3_ := Aside0.mk ((by rw [hg]; exact (below_size (bb HB.out)) : w.heap.size ≤ gb737)); clear HB; have HB := n0_; have BK737 := n1_; have GW737 := n2_; have GE737 := n3_; clear n0_ n1_ n2_ n3_; clear hb hbox hg; have hcz18_0 := cz BK737.out 0 (.int .i64 a0_0); have hcz18_1 := cz BK737.out 1 (.int .i64 a0_1); have hcz18_2 := cz BK737.out 2 (.int .i64 a0_2); have hcz18_3 := cz BK737.out 3 (.int .i64 a0_3); have hcz18_4 := cz BK737.out 4 (.int .i64 a0_4); have hcz18_5 := cz BK737.out 5 (.int .i64 a0_5); have hfz18_0 := blk_frozen BK737.out 0; have hfz18_1 := blk_frozen BK737.out 1; have hfz18_2 := blk_frozen BK737.out 2; have hfz18_3 := blk_frozen BK737.out 3; have hfz18_4 := blk_frozen BK737.out 4; have hfz18_5 := blk_frozen BK737.out 5) | ((with_reducible refine gate_callee (f := 249) rfl ?_); refine gm (some 8) Try.func249 #[.agg #[.int .i64 a0_0, .int .i64 a0_1, .int .i64 a0_2, .int .i64 a0_3, .int .i64 a0_4, .int .i64 a0_5]] ?_; (with_reducible refine (spec_IsFact.calls a0_0 a0_1 a0_2 a0_3 a0_4 a0_5 false _ A4.out).mono ?_); rintro e w19 ⟨rfl, hb⟩; refine ⟨_, rfl, ?_⟩; have n0_ := Aside0.mk (blk_below (rb BK737.out) hb); have n1_ := Aside0.mk (below_step (bb HB.out) hb); clear BK737; clear HB; have BK737 := n0_; have HB := n1_; clear n0_ n1_; (try clear hb); (try clear hb2); (try clear hk); (try clear hi)))
    go_ret
    exact ⟨by first | rfl | (simp [errW_none, errW_some] <;> rfl) | (simp [*, errW_none, errW_some] <;> rfl), bb HB.out⟩
end Go.Proofs.Ytbfochojhmggfaa.R
end
section
namespace Go.Proofs.Ytbfochojhmggfaa.R
open Go.RowKit Go.Proofs.YtbfochojhmggfaaW.PrintWords Go.Proofs.YtbfochojhmggfaaW.PrintLast Go.Proofs.YtbfochojhmggfaaW.PrintMore
attribute [local go_sem] max2_int min2_int max_two min_two max_three min_three max_four min_four
set_option linter.unusedVariables false
set_option linter.unusedSimpArgs false
mutual
def spec_RolesUnder.l0 : Nat → List (S176) → List Int → List Bool → Int → Option (List Int)
  | 0, _, _, _, _ => none
  | k + 1, x0, x5, x6, x7 => if x7 ≤ 5 then (spec_RolesUnder.l1 k x0 x5 x6 x7 0) else (spec_RolesUnder.l2 k x5 x6 0)
def spec_RolesUnder.l1 : Nat → List (S176) → List Int → List Bool → Int → Int → Option (List Int)
  | 0, _, _, _, _, _ => none
  | k + 1, x0, x5, x6, x7, x8 => if x8 < (x0.length : Int) then (if 0 ≤ x8 then ((spec_l1In.f ((rd_T176 x0 x8).f0) 0 5).bind fun t750 => (if t750 = true then ((spec_l1In.f ((rd_T176 x0 x8).f1) 0 5).bind fun t752 => (if t752 = true then (if 0 ≤ ((rd_T176 x0 x8).f0) then (if ((rd_T176 x0 x8).f0) < (x6.length : Int) then (if rdOf false x6 ((rd_T176 x0 x8).f0) = true then (if 0 ≤ ((rd_T176 x0 x8).f1) then (if ((rd_T176 x0 x8).f1) < (x6.length : Int) then (spec_RolesUnder.l1 k x0 x5 (x6.set (((rd_T176 x0 x8).f1) : Int).toNat true) x7 (wrap64 (x8 + 1))) else (none)) else (none)) else (spec_RolesUnder.l1 k x0 x5 x6 x7 (wrap64 (x8 + 1)))) else (none)) else (none)) else (spec_RolesUnder.l1 k x0 x5 x6 x7 (wrap64 (x8 + 1))))) else (spec_RolesUnder.l1 k x0 x5 x6 x7 (wrap64 (x8 + 1))))) else (none)) else (spec_RolesUnder.l0 k x0 x5 x6 (wrap64 (x7 + 1)))
def spec_RolesUnder.l2 : Nat → List Int → List Bool → Int → Option (List Int)
  | 0, _, _, _ => none
  | k + 1, x5, x6, x9 => if x9 ≤ 5 then (if 0 ≤ x9 then (if x9 < (x6.length : Int) then (if rdOf false x6 x9 = true then (if x5.length < 17592186044416 then (spec_RolesUnder.l2 k (x5 ++ [x9]) x6 (wrap64 (x9 + 1))) else (none)) else (spec_RolesUnder.l2 k x5 x6 (wrap64 (x9 + 1)))) else (none)) else (none)) else (some x5)
end
def spec_RolesUnder.f (k : Nat) (l0 : List (S176)) (a1 : Int) : Option (List Int) := (some (([] : List Int) : List Int)).bind fun y741 => ((spec_l1In.f a1 0 5).bind fun t744 => (if t744 = true then (if 6 ≤ 281474976710656 then ((some (List.replicate 6 false : List Bool)).bind fun y745 => (if 0 ≤ a1 then (if a1 < (y745.length : Int) then (spec_RolesUnder.l0 k l0 y741 (y745.set (a1 : Int).toNat true) 0) else (none)) else (none))) else (none)) else (some y741)))
set_option maxHeartbeats 8000000 in
set_option maxRecDepth 100000 in
theorem spec_RolesUnder.calls (k : Nat) (A0 : Option Addr) (c0 : Nat) (l0 : List (S176)) (a1 : Int) (r : List Int) (w : World) (hr0 : Kd.C k176 w A0 l0.length l0) (hc0 : l0.length ≤ c0) (h : spec_RolesUnder.f k l0 a1 = some r) :
    Calls Try.prog 248 #[.slice A0 l0.length c0, .int .i64 a1] w fun e w' => ∃ v0_ : Value, e = .returned (v0_) ∧ Kd.R (Kd.int .i64) 3 w' w.heap.size (fun _ => True) v0_ r ∧ Below w.heap.size w w' := by
  have HR0 := Aside0.mk hr0
  have HC0 := Aside0.mk hc0
  clear hr0 hc0
  have HB := Aside0.mk (Below.refl w.heap.size w)
  have H : ((some (([] : List Int) : List Int)).bind fun y741 => ((spec_l1In.f a1 0 5).bind fun t744 => (if t744 = true then (if 6 ≤ 281474976710656 then ((some (List.replicate 6 false : List Bool)).bind fun y745 => (if 0 ≤ a1 then (if a1 < (y745.length : Int) then (spec_RolesUnder.l0 k l0 y741 (y745.set (a1 : Int).toNat true) 0) else (none)) else (none))) else (none)) else (some y741)))) = some r := h
  clear h
  obtain ⟨y741, hy741⟩ : ∃ y_ : List Int, y_ = (([] : List Int)) := ⟨_, rfl⟩
  replace H : ((spec_l1In.f a1 0 5).bind fun t744 => (if t744 = true then (if 6 ≤ 281474976710656 then ((some (List.replicate 6 false : List Bool)).bind fun y745 => (if 0 ≤ a1 then (if a1 < (y745.length : Int) then (spec_RolesUnder.l0 k l0 y741 (y745.set (a1 : Int).toNat true) 0) else (none)) else (none))) else (none)) else (some y741))) = some r := by first | (rw [hy741]; with_reducible exact H) | (have H2_ := (Option.bind_some _ _).symm.trans H; rw [hy741]; with_reducible exact H2_) | (have H2_ := (Option.bind_some _ _).symm.trans H; with_reducible exact H2_) | with_reducible exact H | (rw [hy741]; exact H) | exact H
  have Ny741 := Aside0.mk hy741
  clear hy741
  replace H := Option.bind_eq_some_iff.mp H
  obtain ⟨t744, A30, H⟩ := H
  replace H : (if t744 = true then (if 6 ≤ 281474976710656 then ((some (List.replicate 6 false : List Bool)).bind fun y745 => (if 0 ≤ a1 then (if a1 < (y745.length : Int) then (spec_RolesUnder.l0 k l0 y741 (y745.set (a1 : Int).toNat true) 0) else (none)) else (none))) else (none)) else (some y741)) = some r := H
  have A3 := Aside0.mk A30
  clear A30
  by_cases c4 : t744 = true
  · subst c4
    have H1 : (if 6 ≤ 281474976710656 then ((some (List.replicate 6 false : List Bool)).bind fun y745 => (if 0 ≤ a1 then (if a1 < (y745.length : Int) then (spec_RolesUnder.l0 k l0 y741 (y745.set (a1 : Int).toNat true) 0) else (none)) else (none))) else (none)) = some r := by rw [if_pos rfl] at H; exact H
    clear H
    have H := H1
    clear H1
    by_cases c5 : 6 ≤ 281474976710656
    · rw [if_pos c5] at H
      have c5b0 := eq_true c5
      have c5b1 : decide (6 ≤ 281474976710656) = true := decide_eq_true c5
      clear c5
      obtain ⟨y745, hy745⟩ : ∃ y_ : List Bool, y_ = (List.replicate 6 false) := ⟨_, rfl⟩
      replace H : (if 0 ≤ a1 then (if a1 < (y745.length : Int) then (spec_RolesUnder.l0 k l0 y741 (y745.set (a1 : Int).toNat true) 0) else (none)) else (none)) = some r := by first | (rw [hy745]; with_reducible exact H) | (have H2_ := (Option.bind_some _ _).symm.trans H; rw [hy745]; with_reducible exact H2_) | (have H2_ := (Option.bind_some _ _).symm.trans H; with_reducible exact H2_) | with_reducible exact H | (rw [hy745]; exact H) | exact H
      have Ny745 := Aside0.mk hy745
      clear hy745
      by_cases c6 : 0 ≤ a1
      · rw [if_pos c6] at H
        have c6b0 : decide (0 ≤ a1) = true := decide_eq_true c6
        clear c6
        by_cases c7 : a1 < (y745.length : Int)
        · rw [if_pos c7] at H
          have c7b0 : decide (a1 < (y745.length : Int)) = true := decide_eq_true c7
          clear c7
          obtain ⟨y748, hy748⟩ : ∃ y_ : List Bool, y_ = (y745.set (a1 : Int).toNat true) := ⟨_, rfl⟩
          replace H : (spec_RolesUnder.l0 k l0 y741 y748 0) = some r := by first | (rw [hy748]; with_reducible exact H) | (have H2_ := (Option.bind_some _ _).symm.trans H; rw [hy748]; with_reducible exact H2_) | (have H2_ := (Option.bind_some _ _).symm.trans H; with_reducible exact H2_) | with_reducible exact H | (rw [hy748]; exact H) | exact H
          have Ny748 := Aside0.mk hy748
          clear hy748
          have H' := Aside0.mk H
          clear H
          go_enter Try.func248, Try.ntmps248
          go_wp2_with (first | ((with_reducible refine gate_dst (N := 10) rfl ?_); refine Kd.R_lit (Kd.int .i64) _ 3 ?hg (N := 10) ?hd (xs := ([] : List Int)) (inner := []) (ok := fun _ => True) (okp := fun _ => True) ?hr ?hp (fun _ hk => hk) trivial (Below.refl _ _) (Nat.le_refl _) (by simp) ?_; (case hd => rfl); (case hg => rfl); (case hr => first | (go_simp; done) | (go_simp; rfl)); (case hp => exact (Reps.none _ _)); intro v742 w9 ho10 hb hg_ hnew_; clear hg_ hnew_; (first | rw [← Ny741.out] at ho10 | (simp only [Int.reduceToNat] at ho10; rw [← Ny741.out] at ho10)); have n0_ := Aside0.mk (Kd.R_lower ho10 (below_size (bb HB.out))); have n1_ := Aside0.mk (below_step (bb HB.out) hb); clear HB; have HO743 := n0_; have HB := n1_; clear n0_ n1_; clear hb ho10) | ((with_reducible refine gate_callee (f := 96) rfl ?_); refine gm (some 12) Try.func96 #[.int .i64 a1, .int .i64 0, .int .i64 5] ?_; (with_reducible refine (spec_l1In.calls a1 0 5 true _ A3.out).mono ?_); rintro e w' ⟨rfl, ⟨nd, rfl⟩⟩; refine ⟨_, rfl, ?_⟩; (try (rw [drewN_self w9]; generalize hq_ : World.drewN w9 _ = w9; have n0_ := Aside0.mk (Kd.R_at hq_ HO743.out); have n1_ := Aside0.mk (below_at hq_ HB.out); clear hq_ HO743 HB; have HO743 := n0_; have HB := n1_; clear n0_ n1_))) | ((with_reducible refine gate_dst (N := 15) rfl ?_); refine Kd.R_make Kd.bool _ 4 rfl (N := 15) rfl 58 _ _ rfl 6 rfl rfl Try.underlying58 (.bool false) 1 info4 rfl (by decide) (by omega) false (ok := fun _ => True) (okp := fun _ => True) rfl (fun _ hk => hk) trivial (by omega) (by omega) (Below.refl _ _) (Nat.le_refl _) ?_; intro v746 w11 ho12 hb hg_ hnew_; clear hg_ hnew_; (first | rw [← Ny745.out] at ho12 | (simp only [Int.reduceToNat] at ho12; rw [← Ny745.out] at ho12)); have n0_ := Aside0.mk (Kd.R_below (rr HO743.out) hb); have n1_ := Aside0.mk (Kd.R_lower ho12 (below_size (bb HB.out))); have n2_ := Aside0.mk (below_step (bb HB.out) hb); clear HO743; clear HB; have HO743 := n0_; have HO747 := n1_; have HB := n2_; clear n0_ n1_ n2_; clear hb ho12; have p8 : 0 ≤ (a1 : Int) := of_decide_eq_true (by first | (with_reducible assumption) | assumption); have q8 : (a1 : Int) < ((y745.length : Int) : Int) := of_decide_eq_true (by first | (with_reducible assumption) | assumption); obtain ⟨go8, co8, eo8, gb8, gl8, cl8, HG8⟩ := Kd.R_form HO747.out (by omega); (first | cases eo8 | (injection eo8 with ea_ en_ ec_; (first | subst ea_ | (injection ea_ with ea_; subst ea_)); subst ec_; clear en_)); have GB8 := Aside0.mk gb8; have GG8 := Aside0.mk HG8; clear gb8 gl8 HG8; obtain ⟨hx8_0, hf8_0⟩ := Kd.R_celln false HO747.out (a1 : Int) p8 q8; replace p8 := eq_true p8; replace q8 := eq_true q8; obtain ⟨hy13_, hz13_⟩ := Kd.R_celln false HO747.out (a1 : Int) (of_decide_eq_true (by first | (with_reducible assumption) | assumption)) (of_decide_eq_true (by first | (with_reducible assumption) | assumption)); have HP13 := Kd.R_putg HO747.out (a1 : Int) true) | ((with_reducible refine gate_store (t := 4) (p := 18) rfl ?_); refine store_event (t := 4) (p := 18) (v := ?vo_w14) (w1 := (w11.setCell ⟨go8, (a1 : Int).toNat, none⟩ (.bool true))) ?hg ?ho ?hn ?hr ?_; (case ho => rfl); (case hg => rfl); (case hn => rfl); (case hr => first | (go_simp; done) | (go_simp; rfl) | (obtain ⟨A_, c_, e_⟩ := Kd.R_slice HO743.out; subst e_; first | (go_simp; done) | (go_simp; rfl)) | (obtain ⟨A_, c_, e_⟩ := Kd.R_slice HO747.out; subst e_; first | (go_simp; done) | (go_simp; rfl))); intro w14 hw; have hg : w11.grownBy w14 (some go8) := (by rw [hw]; exact HP13.2); have hp_ : Kd.R Kd.bool 4 w14 w.heap.size (fun _ => True) (.slice (some ⟨go8, 0, none⟩) y745.length co8) y748 := (by rw [hw, Ny748.out]; exact HP13.1); clear HP13; have n0_ := Aside0.mk (Kd.R_over' (v := (.slice (some ⟨go8, 0, none⟩) y745.length co8)) (rr HO743.out) (Kd.R_typed HO747.out) (by decide) hg); have n1_ := Aside0.mk (hp_); have n2_ := Aside0.mk ((by rw [hw]; exact below_set (HB.out) GB8.out : Below w.heap.size w w14)); clear HO743; clear HO747; clear HB; have HO743 := n0_; have HO747 := n1_; have HB := n2_; clear n0_ n1_ n2_; clear hg hw hp_))
          go_loopg [7] k (fun kq v7 w' => ∃ (x6_1 : List Bool) (x7_1 : Int), v7 = .int .i64 x7_1 ∧ Aside0 (spec_RolesUnder.l0 kq l0 y741 x6_1 x7_1 = some r) ∧ Aside0 (kq ≤ k) ∧ Aside0 (Kd.R (Kd.int .i64) 3 w' w.heap.size (fun _ => True) v742 y741) ∧ Aside0 (Kd.R Kd.bool 4 w' w.heap.size (fun _ => True) (.slice (some ⟨go8, 0, none⟩) y745.length co8) x6_1) ∧ Aside0 (Below w.heap.size w w'))
          case atStart => exact ⟨(y748), (0), (by first | rfl | (simp; done) | (simp [*]; done)), H', ⟨Nat.le_refl _⟩, ⟨rr HO743.out⟩, ⟨rr HO747.out⟩, ⟨bb HB.out⟩⟩
          case round =>
            clear H'
            try clear c2
            try clear p2
            try clear c4
            try clear c5
            try clear c5b0
            try clear c5b1
            try clear c6
            try clear c6b0
            try clear c7
            try clear c7b0
            try clear p8
            try clear q8
            try clear hx8
            try clear hf8
            try clear c9
            try clear hx8_0
            try clear p8
            try clear q8
            obtain ⟨x6_1, x7_1, rfl, HA, HK1, HO_5, HO_6, HB⟩ := hrel
            have hl6_1 := (Kd.R_reads' HO_6.out).1
            rw [hl6_1] at HO_6
            (try simp only [hl6_1])
            (try simp only [hl6_1] at HO_5)
            cases gk with
            | zero => exact absurd HA.out (by simp [spec_RolesUnder.l0])
            | succ k1 =>
              have H := HA.out
              clear HA
              simp only [spec_RolesUnder.l0] at H
              by_cases c15 : x7_1 ≤ 5
              · rw [if_pos c15] at H
                have c15b0 : decide (x7_1 ≤ 5) = true := decide_eq_true c15
                clear c15
                have H' := Aside0.mk H
                clear H
                go_wp2
                go_loopg [8] k1 (fun kq v8 w' => ∃ (x6_2 : List Bool) (x8_2 : Int), v8 = .int .i64 x8_2 ∧ Aside0 (spec_RolesUnder.l1 kq l0 y741 x6_2 x7_1 x8_2 = some r) ∧ Aside0 (kq ≤ k1) ∧ Aside0 (Kd.R (Kd.int .i64) 3 w' w.heap.size (fun _ => True) v742 y741) ∧ Aside0 (Kd.R Kd.bool 4 w' w.heap.size (fun _ => True) (.slice (some ⟨go8, 0, none⟩) x6_1.length co8) x6_2) ∧ Aside0 (Below w.heap.size w w'))
                case atStart => exact ⟨(x6_1), (0), (by first | rfl | (simp; done) | (simp [*]; done)), H', ⟨Nat.le_refl _⟩, ⟨by (try simp only [hl6_1]); (with_reducible repeat (first | apply Kd.R_alloc | apply Kd.R_drewN | apply Kd.R_drew)); exact HO_5.out⟩, ⟨by (try simp only [hl6_1]); (with_reducible repeat (first | apply Kd.R_alloc | apply Kd.R_drewN | apply Kd.R_drew)); exact HO_6.out⟩, ⟨bb HB.out⟩⟩
                case round =>
                  clear H'
                  try clear c1
                  try clear c2
                  try clear p2
                  try clear c4
                  try clear c5
                  try clear c5b0
                  try clear c5b1
                  try clear c6
                  try clear c6b0
                  try clear c7
                  try clear c7b0
                  try clear p8
                  try clear q8
                  try clear hx8
                  try clear hf8
                  try clear c9
                  try clear c15
                  try clear c15b0
                  try clear hx8_0
                  try clear p2
                  try clear p8
                  try clear q8
                  obtain ⟨x6_2, x8_2, rfl, HA, HK2, HO_5, HO_6, HB⟩ := hrel
                  have hl6_2 := (Kd.R_reads' HO_6.out).1
                  rw [hl6_2] at HO_6
                  (try simp only [hl6_2])
                  (try simp only [hl6_2] at HO_5)
                  cases gk with
                  | zero => exact absurd HA.out (by simp [spec_RolesUnder.l1])
                  | succ k2 =>
                    have H := HA.out
                    clear HA
                    simp only [spec_RolesUnder.l1] at H
                    by_cases c16 : x8_2 < (l0.length : Int)
                    · rw [if_pos c16] at H
                      have c16b0 : decide (x8_2 < (l0.length : Int)) = true := decide_eq_true c16
                      clear c16
                      by_cases c17 : 0 ≤ x8_2
                      · rw [if_pos c17] at H
                        have c17b0 : decide (0 ≤ x8_2) = true := decide_eq_true c17
                        clear c17
                        replace H := Option.bind_eq_some_iff.mp H
                        obtain ⟨t750, A180, H⟩ := H
                        replace H : (if t750 = true then ((spec_l1In.f ((rd_T176 l0 x8_2).f1) 0 5).bind fun t752 => (if t752 = true then (if 0 ≤ ((rd_T176 l0 x8_2).f0) then (if ((rd_T176 l0 x8_2).f0) < (x6_2.length : Int) then (if rdOf false x6_2 ((rd_T176 l0 x8_2).f0) = true then (if 0 ≤ ((rd_T176 l0 x8_2).f1) then (if ((rd_T176 l0 x8_2).f1) < (x6_2.length : Int) then (spec_RolesUnder.l1 k2 l0 y741 (x6_2.set (((rd_T176 l0 x8_2).f1) : Int).toNat true) x7_1 (wrap64 (x8_2 + 1))) else (none)) else (none)) else (spec_RolesUnder.l1 k2 l0 y741 x6_2 x7_1 (wrap64 (x8_2 + 1)))) else (none)) else (none)) else (spec_RolesUnder.l1 k2 l0 y741 x6_2 x7_1 (wrap64 (x8_2 + 1))))) else (spec_RolesUnder.l1 k2 l0 y741 x6_2 x7_1 (wrap64 (x8_2 + 1)))) = some r := H
                        have A18 := Aside0.mk A180
                        clear A180
                        by_cases c19 : t750 = true
                        · subst c19
                          have H1 : ((spec_l1In.f ((rd_T176 l0 x8_2).f1) 0 5).bind fun t752 => (if t752 = true then (if 0 ≤ ((rd_T176 l0 x8_2).f0) then (if ((rd_T176 l0 x8_2).f0) < (x6_2.length : Int) then (if rdOf false x6_2 ((rd_T176 l0 x8_2).f0) = true then (if 0 ≤ ((rd_T176 l0 x8_2).f1) then (if ((rd_T176 l0 x8_2).f1) < (x6_2.length : Int) then (spec_RolesUnder.l1 k2 l0 y741 (x6_2.set (((rd_T176 l0 x8_2).f1) : Int).toNat true) x7_1 (wrap64 (x8_2 + 1))) else (none)) else (none)) else (spec_RolesUnder.l1 k2 l0 y741 x6_2 x7_1 (wrap64 (x8_2 + 1)))) else (none)) else (none)) else (spec_RolesUnder.l1 k2 l0 y741 x6_2 x7_1 (wrap64 (x8_2 + 1))))) = some r := by rw [if_pos rfl] at H; exact H
                          clear H
                          have H := H1
                          clear H1
                          replace H := Option.bind_eq_some_iff.mp H
                          obtain ⟨t752, A200, H⟩ := H
                          replace H : (if t752 = true then (if 0 ≤ ((rd_T176 l0 x8_2).f0) then (if ((rd_T176 l0 x8_2).f0) < (x6_2.length : Int) then (if rdOf false x6_2 ((rd_T176 l0 x8_2).f0) = true then (if 0 ≤ ((rd_T176 l0 x8_2).f1) then (if ((rd_T176 l0 x8_2).f1) < (x6_2.length : Int) then (spec_RolesUnder.l1 k2 l0 y741 (x6_2.set (((rd_T176 l0 x8_2).f1) : Int).toNat true) x7_1 (wrap64 (x8_2 + 1))) else (none)) else (none)) else (spec_RolesUnder.l1 k2 l0 y741 x6_2 x7_1 (wrap64 (x8_2 + 1)))) else (none)) else (none)) else (spec_RolesUnder.l1 k2 l0 y741 x6_2 x7_1 (wrap64 (x8_2 + 1)))) = some r := H
                          have A20 := Aside0.mk A200
                          clear A200
                          by_cases c21 : t752 = true
                          · subst c21
                            have H1 : (if 0 ≤ ((rd_T176 l0 x8_2).f0) then (if ((rd_T176 l0 x8_2).f0) < (x6_2.length : Int) then (if rdOf false x6_2 ((rd_T176 l0 x8_2).f0) = true then (if 0 ≤ ((rd_T176 l0 x8_2).f1) then (if ((rd_T176 l0 x8_2).f1) < (x6_2.length : Int) then (spec_RolesUnder.l1 k2 l0 y741 (x6_2.set (((rd_T176 l0 x8_2).f1) : Int).toNat true) x7_1 (wrap64 (x8_2 + 1))) else (none)) else (none)) else (spec_RolesUnder.l1 k2 l0 y741 x6_2 x7_1 (wrap64 (x8_2 + 1)))) else (none)) else (none)) = some r := by rw [if_pos rfl] at H; exact H
                            clear H
                            have H := H1
                            clear H1
                            by_cases c22 : 0 ≤ ((rd_T176 l0 x8_2).f0)
                            · rw [if_pos c22] at H
                              have c22b0 : decide (0 ≤ ((rd_T176 l0 x8_2).f0)) = true := decide_eq_true c22
                              clear c22
                              by_cases c23 : ((rd_T176 l0 x8_2).f0) < (x6_2.length : Int)
                              · rw [if_pos c23] at H
                                have c23b0 : decide (((rd_T176 l0 x8_2).f0) < (x6_2.length : Int)) = true := decide_eq_true c23
                                clear c23
                                obtain ⟨bq24, hbq24⟩ : ∃ b_ : Bool, b_ = (rdOf false x6_2 ((rd_T176 l0 x8_2).f0)) := ⟨_, rfl⟩
                                replace H : (if bq24 = true then (if 0 ≤ ((rd_T176 l0 x8_2).f1) then (if ((rd_T176 l0 x8_2).f1) < (x6_2.length : Int) then (spec_RolesUnder.l1 k2 l0 y741 (x6_2.set (((rd_T176 l0 x8_2).f1) : Int).toNat true) x7_1 (wrap64 (x8_2 + 1))) else (none)) else (none)) else (spec_RolesUnder.l1 k2 l0 y741 x6_2 x7_1 (wrap64 (x8_2 + 1)))) = some r := by rw [← hbq24] at H; exact H
                                have Nbq24 := Aside0.mk hbq24
                                clear hbq24
                                by_cases c25 : bq24 = true
                                · subst c25
                                  have H1 : (if 0 ≤ ((rd_T176 l0 x8_2).f1) then (if ((rd_T176 l0 x8_2).f1) < (x6_2.length : Int) then (spec_RolesUnder.l1 k2 l0 y741 (x6_2.set (((rd_T176 l0 x8_2).f1) : Int).toNat true) x7_1 (wrap64 (x8_2 + 1))) else (none)) else (none)) = some r := by rw [if_pos rfl] at H; exact H
                                  clear H
                                  have H := H1
                                  clear H1
                                  by_cases c26 : 0 ≤ ((rd_T176 l0 x8_2).f1)
                                  · rw [if_pos c26] at H
                                    have c26b0 : decide (0 ≤ ((rd_T176 l0 x8_2).f1)) = true := decide_eq_true c26
                                    clear c26
                                    by_cases c27 : ((rd_T176 l0 x8_2).f1) < (x6_2.length : Int)
                                    · rw [if_pos c27] at H
                                      have c27b0 : decide (((rd_T176 l0 x8_2).f1) < (x6_2.length : Int)) = true := decide_eq_true c27
                                      clear c27
                                      obtain ⟨y756, hy756⟩ : ∃ y_ : List Bool, y_ = (x6_2.set (((rd_T176 l0 x8_2).f1) : Int).toNat true) := ⟨_, rfl⟩
                                      replace H : (spec_RolesUnder.l1 k2 l0 y741 y756 x7_1 (wrap64 (x8_2 + 1))) = some r := by first | (rw [hy756]; with_reducible exact H) | (have H2_ := (Option.bind_some _ _).symm.trans H; rw [hy756]; with_reducible exact H2_) | (have H2_ := (Option.bind_some _ _).symm.trans H; with_reducible exact H2_) | with_reducible exact H | (rw [hy756]; exact H) | exact H
                                      have Ny756 := Aside0.mk hy756
                                      clear hy756
                                      have H' := Aside0.mk H
                                      clear H
                                      have p749 : 0 ≤ (x8_2 : Int) := of_decide_eq_true (by first | (with_reducible assumption) | assumption)
                                      have q749 : x8_2 < (l0.length : Int) := of_decide_eq_true (by first | (with_reducible assumption) | assumption)
                                      obtain ⟨ad749, e749, hx749_0, hx749_1⟩ := at_T176 HR0.out x8_2 p749 q749
                                      cases e749
                                      replace hx749_0 := (HB.out.cell (World.block_lt_of_cell? w _ hx749_0)).trans hx749_0
                                      replace hx749_1 := (HB.out.cell (World.block_lt_of_cell? w _ hx749_1)).trans hx749_1
                                      replace p749 := eq_true p749
                                      replace q749 := eq_true q749
                                      go_wp2_with (first | ((with_reducible refine gate_callee (f := 96) rfl ?_); refine gm (some 34) Try.func96 #[.int .i64 ((rd_T176 l0 x8_2).f0), .int .i64 0, .int .i64 5] ?_; (with_reducible refine (spec_l1In.calls ((rd_T176 l0 x8_2).f0) 0 5 true _ A18.out).mono ?_); rintro e w' ⟨rfl, ⟨nd, rfl⟩⟩; refine ⟨_, rfl, ?_⟩; (try (rw [drewN_self wr]; generalize hq_ : World.drewN wr _ = wr; have n0_ := Aside0.mk (Kd.R_at hq_ HO_5.out); have n1_ := Aside0.mk (Kd.R_at hq_ HO_6.out); have n2_ := Aside0.mk (below_at hq_ HB.out); clear hq_ HO_5 HO_6 HB; have HO_5 := n0_; have HO_6 := n1_; have HB := n2_; clear n0_ n1_ n2_)); have p751 : 0 ≤ (x8_2 : Int) := of_decide_eq_true (by first | (with_reducible assumption) | assumption); have q751 : x8_2 < (l0.length : Int) := of_decide_eq_true (by first | (with_reducible assumption) | assumption); obtain ⟨ad751, e751, hx751_0, hx751_1⟩ := at_T176 HR0.out x8_2 p751 q751; obtain rfl : ad749 = ad751 := (by injection e751); replace hx751_0 := (HB.out.cell (World.block_lt_of_cell? w _ hx751_0)).trans hx751_0; replace hx751_1 := (HB.out.cell (World.block_lt_of_cell? w _ hx751_1)).trans hx751_1; replace p751 := eq_true p751; replace q751 := eq_true q751) | (go_at_call 96; (with_reducible refine (spec_l1In.calls ((rd_T176 l0 x8_2).f1) 0 5 true _ A20.out).mono ?_); rintro e w' ⟨rfl, ⟨nd, rfl⟩⟩; (try (rw [drewN_self wr]; generalize hq_ : World.drewN wr _ = wr; have n0_ := Aside0.mk (Kd.R_at hq_ HO_5.out); have n1_ := Aside0.mk (Kd.R_at hq_ HO_6.out); have n2_ := Aside0.mk (below_at hq_ HB.out); clear hq_ HO_5 HO_6 HB; have HO_5 := n0_; have HO_6 := n1_; have HB := n2_; clear n0_ n1_ n2_)); have p753 : 0 ≤ (x8_2 : Int) := of_decide_eq_true (by first | (with_reducible assumption) | assumption); have q753 : x8_2 < (l0.length : Int) := of_decide_eq_true (by first | (with_reducible assumption) | assumption); obtain ⟨ad753, e753, hx753_0, hx753_1⟩ := at_T176 HR0.out x8_2 p753 q753; obtain rfl : ad749 = ad753 := (by injection e753); replace hx753_0 := (HB.out.cell (World.block_lt_of_cell? w _ hx753_0)).trans hx753_0; replace hx753_1 := (HB.out.cell (World.block_lt_of_cell? w _ hx753_1)).trans hx753_1; replace p753 := eq_true p753; replace q753 := eq_true q753; have p754 : 0 ≤ (((rd_T176 l0 x8_2).f0) : Int) := of_decide_eq_true (by first | (with_reducible assumption) | assumption); have q754 : ((rd_T176 l0 x8_2).f0) < (x6_2.length : Int) := of_decide_eq_true (by first | (with_reducible assumption) | assumption); obtain ⟨ad754, e754, hx754_0⟩ := Kd.at_bool (Kd.R_reads' HO_6.out).2.2 ((rd_T176 l0 x8_2).f0) p754 q754; (try rw [← Nbq24.out] at hx754_0); obtain rfl : (⟨go8, 0, none⟩ : Addr) = ad754 := (by injection e754); (first | simp only [add_plain] at hx754_0 | simp only [add_at] at hx754_0 | simp only [Addr.add, Nat.zero_add] at hx754_0 | skip); replace p754 := eq_true p754; replace q754 := eq_true q754; have p755 : 0 ≤ (x8_2 : Int) := of_decide_eq_true (by first | (with_reducible assumption) | assumption); have q755 : x8_2 < (l0.length : Int) := of_decide_eq_true (by first | (with_reducible assumption) | assumption); obtain ⟨ad755, e755, hx755_0, hx755_1⟩ := at_T176 HR0.out x8_2 p755 q755; obtain rfl : ad749 = ad755 := (by injection e755); replace hx755_0 := (HB.out.cell (World.block_lt_of_cell? w _ hx755_0)).trans hx755_0; replace hx755_1 := (HB.out.cell (World.block_lt_of_cell? w _ hx755_1)).trans hx755_1; replace p755 := eq_true p755; replace q755 := eq_true q755; have p28 : 0 ≤ (((rd_T176 l0 x8_2).f1) : Int) := of_decide_eq_true (by first | (with_reducible assumption) | assumption); have q28 : (((rd_T176 l0 x8_2).f1) : Int) < ((x6_2.length : Int) : Int) := of_decide_eq_true (by first | (with_reducible assumption) | assumption); obtain ⟨hx28_0, hf28_0⟩ := Kd.R_celln false HO_6.out (((rd_T176 l0 x8_2).f1) : Int) p28 q28; replace p28 := eq_true p28; replace q28 := eq_true q28; obtain ⟨hy29_, hz29_⟩ := Kd.R_celln false HO_6.out (((rd_T176 l0 x8_2).f1) : Int) (of_decide_eq_true (by first | (with_reducible assumption) | assumption)) (of_decide_eq_true (by first | (with_reducible assumption) | assumption)); have HP29 := Kd.R_putg HO_6.out (((rd_T176 l0 x8_2).f1) : Int) true) | ((with_reducible refine gate_store (t := 4) (p := 59) rfl ?_); refine store_event (t := 4) (p := 59) (v := ?vo_w30) (w1 := (wr.setCell ⟨go8, (((rd_T176 l0 x8_2).f1) : Int).toNat, none⟩ (.bool true))) ?hg ?ho ?hn ?hr ?_; (case ho => rfl); (case hg => rfl); (case hn => rfl); (case hr => first | (go_simp; done) | (go_simp; rfl) | (obtain ⟨A_, c_, e_⟩ := Kd.R_slice HO_5.out; subst e_; first | (go_simp; done) | (go_simp; rfl)) | (obtain ⟨A_, c_, e_⟩ := Kd.R_slice HO_6.out; subst e_; first | (go_simp; done) | (go_simp; rfl))); intro w30 hw; have hg : wr.grownBy w30 (some go8) := (by rw [hw]; exact HP29.2); have hp_ : Kd.R Kd.bool 4 w30 w.heap.size (fun _ => True) (.slice (some ⟨go8, 0, none⟩) x6_2.length co8) y756 := (by rw [hw, Ny756.out]; exact HP29.1); clear HP29; have n0_ := Aside0.mk (Kd.R_over' (v := (.slice (some ⟨go8, 0, none⟩) x6_2.length co8)) (rr HO_5.out) (Kd.R_typed HO_6.out) (by decide) hg); have n1_ := Aside0.mk (hp_); have n2_ := Aside0.mk ((by rw [hw]; exact below_set (HB.out) GB8.out : Below w.heap.size w w30)); clear HO_5; clear HO_6; clear HB; have HO_5 := n0_; have HO_6 := n1_; have HB := n2_; clear n0_ n1_ n2_; clear hg hw hp_))
                                      (try simp only [← hl6_2])
                                      go_roundg k2
                                      case measure => have := HK1.out; have := HK2.out; omega
                                      case rel => exact ⟨(y756), (wrap64 (x8_2 + 1)), (by first | rfl | (simp; done) | (simp [*]; done)), H', ⟨by have := HK1.out; have := HK2.out; omega⟩, ⟨by (try simp only [hl6_1]); (try simp only [hl6_2]); (with_reducible repeat (first | apply Kd.R_alloc | apply Kd.R_drewN | apply Kd.R_drew)); exact HO_5.out⟩, ⟨by (try simp only [hl6_1]); (try simp only [hl6_2]); (with_reducible repeat (first | apply Kd.R_alloc | apply Kd.R_drewN | apply Kd.R_drew)); exact HO_6.out⟩, ⟨bb HB.out⟩⟩
                                    · rw [if_neg c27] at H
                                      exact absurd H (by simp)
                                  · rw [if_neg c26] at H
                                    exact absurd H (by simp)
                                · replace c25 := Bool.eq_false_iff.mpr c25
                                  subst c25
                                  have H1 : (spec_RolesUnder.l1 k2 l0 y741 x6_2 x7_1 (wrap64 (x8_2 + 1))) = some r := by rw [if_neg (show ¬ (false = true) by decide)] at H; exact H
                                  clear H
                                  have H := H1
                                  clear H1
                                  have H' := Aside0.mk H
                                  clear H
                                  have p749 : 0 ≤ (x8_2 : Int) := of_decide_eq_true (by first | (with_reducible assumption) | assumption)
                                  have q749 : x8_2 < (l0.length : Int) := of_decide_eq_true (by first | (with_reducible assumption) | assumption)
                                  obtain ⟨ad749, e749, hx749_0, hx749_1⟩ := at_T176 HR0.out x8_2 p749 q749
                                  cases e749
                                  replace hx749_0 := (HB.out.cell (World.block_lt_of_cell? w _ hx749_0)).trans hx749_0
                                  replace hx749_1 := (HB.out.cell (World.block_lt_of_cell? w _ hx749_1)).trans hx749_1
                                  replace p749 := eq_true p749
                                  replace q749 := eq_true q749
                                  go_wp2_with (first | ((with_reducible refine gate_callee (f := 96) rfl ?_); refine gm (some 34) Try.func96 #[.int .i64 ((rd_T176 l0 x8_2).f0), .int .i64 0, .int .i64 5] ?_; (with_reducible refine (spec_l1In.calls ((rd_T176 l0 x8_2).f0) 0 5 true _ A18.out).mono ?_); rintro e w' ⟨rfl, ⟨nd, rfl⟩⟩; refine ⟨_, rfl, ?_⟩; have p751 : 0 ≤ (x8_2 : Int) := of_decide_eq_true (by first | (with_reducible assumption) | assumption); have q751 : x8_2 < (l0.length : Int) := of_decide_eq_true (by first | (with_reducible assumption) | assumption); obtain ⟨ad751, e751, hx751_0, hx751_1⟩ := at_T176 HR0.out x8_2 p751 q751; obtain rfl : ad749 = ad751 := (by injection e751); replace hx751_0 := (HB.out.cell (World.block_lt_of_cell? w _ hx751_0)).trans hx751_0; replace hx751_1 := (HB.out.cell (World.block_lt_of_cell? w _ hx751_1)).trans hx751_1; replace p751 := eq_true p751; replace q751 := eq_true q751) | (go_at_call 96; (with_reducible refine (spec_l1In.calls ((rd_T176 l0 x8_2).f1) 0 5 true _ A20.out).mono ?_); rintro e w' ⟨rfl, ⟨nd, rfl⟩⟩; have p753 : 0 ≤ (x8_2 : Int) := of_decide_eq_true (by first | (with_reducible assumption) | assumption); have q753 : x8_2 < (l0.length : Int) := of_decide_eq_true (by first | (with_reducible assumption) | assumption); obtain ⟨ad753, e753, hx753_0, hx753_1⟩ := at_T176 HR0.out x8_2 p753 q753; obtain rfl : ad749 = ad753 := (by injection e753); replace hx753_0 := (HB.out.cell (World.block_lt_of_cell? w _ hx753_0)).trans hx753_0; replace hx753_1 := (HB.out.cell (World.block_lt_of_cell? w _ hx753_1)).trans hx753_1; replace p753 := eq_true p753; replace q753 := eq_true q753; have p754 : 0 ≤ (((rd_T176 l0 x8_2).f0) : Int) := of_decide_eq_true (by first | (with_reducible assumption) | assumption); have q754 : ((rd_T176 l0 x8_2).f0) < (x6_2.length : Int) := of_decide_eq_true (by first | (with_reducible assumption) | assumption); obtain ⟨ad754, e754, hx754_0⟩ := Kd.at_bool (Kd.R_reads' HO_6.out).2.2 ((rd_T176 l0 x8_2).f0) p754 q754; (try rw [← Nbq24.out] at hx754_0); obtain rfl : (⟨go8, 0, none⟩ : Addr) = ad754 := (by injection e754); (first | simp only [add_plain] at hx754_0 | simp only [add_at] at hx754_0 | simp only [Addr.add, Nat.zero_add] at hx754_0 | skip); replace p754 := eq_true p754; replace q754 := eq_true q754))
                                  (try simp only [← hl6_2])
                                  go_roundg k2
                                  case measure => have := HK1.out; have := HK2.out; omega
                                  case rel => exact ⟨(x6_2), (wrap64 (x8_2 + 1)), (by first | rfl | (simp; done) | (simp [*]; done)), H', ⟨by have := HK1.out; have := HK2.out; omega⟩, ⟨by (try simp only [hl6_1]); (try simp only [hl6_2]); (with_reducible repeat (first | apply Kd.R_alloc | apply Kd.R_drewN | apply Kd.R_drew)); exact HO_5.out⟩, ⟨by (try simp only [hl6_1]); (try simp only [hl6_2]); (with_reducible repeat (first | apply Kd.R_alloc | apply Kd.R_drewN | apply Kd.R_drew)); exact HO_6.out⟩, ⟨bb HB.out⟩⟩
                              · rw [if_neg c23] at H
                                exact absurd H (by simp)
                            · rw [if_neg c22] at H
                              exact absurd H (by simp)
                          · replace c21 := Bool.eq_false_iff.mpr c21
                            subst c21
                            have H1 : (spec_RolesUnder.l1 k2 l0 y741 x6_2 x7_1 (wrap64 (x8_2 + 1))) = some r := by rw [if_neg (show ¬ (false = true) by decide)] at H; exact H
                            clear H
                            have H := H1
                            clear H1
                            have H' := Aside0.mk H
                            clear H
                            have p749 : 0 ≤ (x8_2 : Int) := of_decide_eq_true (by first | (with_reducible assumption) | assumption)
                            have q749 : x8_2 < (l0.length : Int) := of_decide_eq_true (by first | (with_reducible assumption) | assumption)
                            obtain ⟨ad749, e749, hx749_0, hx749_1⟩ := at_T176 HR0.out x8_2 p749 q749
                            cases e749
                            replace hx749_0 := (HB.out.cell (World.block_lt_of_cell? w _ hx749_0)).trans hx749_0
                            replace hx749_1 := (HB.out.cell (World.block_lt_of_cell? w _ hx749_1)).trans hx749_1
                            replace p749 := eq_true p749
                            replace q749 := eq_true q749
                            go_wp2_with (first | ((with_reducible refine gate_callee (f := 96) rfl ?_); refine gm (some 34) Try.func96 #[.int .i64 ((rd_T176 l0 x8_2).f0), .int .i64 0, .int .i64 5] ?_; (with_reducible refine (spec_l1In.calls ((rd_T176 l0 x8_2).f0) 0 5 true _ A18.out).mono ?_); rintro e w' ⟨rfl, ⟨nd, rfl⟩⟩; refine ⟨_, rfl, ?_⟩; have p751 : 0 ≤ (x8_2 : Int) := of_decide_eq_true (by first | (with_reducible assumption) | assumption); have q751 : x8_2 < (l0.length : Int) := of_decide_eq_true (by first | (with_reducible assumption) | assumption); obtain ⟨ad751, e751, hx751_0, hx751_1⟩ := at_T176 HR0.out x8_2 p751 q751; obtain rfl : ad749 = ad751 := (by injection e751); replace hx751_0 := (HB.out.cell (World.block_lt_of_cell? w _ hx751_0)).trans hx751_0; replace hx751_1 := (HB.out.cell (World.block_lt_of_cell? w _ hx751_1)).trans hx751_1; replace p751 := eq_true p751; replace q751 := eq_true q751) | (go_at_call 96; (with_reducible refine (spec_l1In.calls ((rd_T176 l0 x8_2).f1) 0 5 false _ A20.out).mono ?_); rintro e w' ⟨rfl, ⟨nd, rfl⟩⟩))
                            (try simp only [← hl6_2])
                            go_roundg k2
                            case measure => have := HK1.out; have := HK2.out; omega
                            case rel => exact ⟨(x6_2), (wrap64 (x8_2 + 1)), (by first | rfl | (simp; done) | (simp [*]; done)), H', ⟨by have := HK1.out; have := HK2.out; omega⟩, ⟨by (try simp only [hl6_1]); (try simp only [hl6_2]); (with_reducible repeat (first | apply Kd.R_alloc | apply Kd.R_drewN | apply Kd.R_drew)); exact HO_5.out⟩, ⟨by (try simp only [hl6_1]); (try simp only [hl6_2]); (with_reducible repeat (first | apply Kd.R_alloc | apply Kd.R_drewN | apply Kd.R_drew)); exact HO_6.out⟩, ⟨bb HB.out⟩⟩
                        · replace c19 := Bool.eq_false_iff.mpr c19
                          subst c19
                          have H1 : (spec_RolesUnder.l1 k2 l0 y741 x6_2 x7_1 (wrap64 (x8_2 + 1))) = some r := by rw [if_neg (show ¬ (false = true) by decide)] at H; exact H
                          clear H
                          have H := H1
                          clear H1
                          have H' := Aside0.mk H
                          clear H
                          have p749 : 0 ≤ (x8_2 : Int) := of_decide_eq_true (by first | (with_reducible assumption) | assumption)
                          have q749 : x8_2 < (l0.length : Int) := of_decide_eq_true (by first | (with_reducible assumption) | assumption)
                          obtain ⟨ad749, e749, hx749_0, hx749_1⟩ := at_T176 HR0.out x8_2 p749 q749
                          cases e749
                          replace hx749_0 := (HB.out.cell (World.block_lt_of_cell? w _ hx749_0)).trans hx749_0
                          replace hx749_1 := (HB.out.cell (World.block_lt_of_cell? w _ hx749_1)).trans hx749_1
                          replace p749 := eq_true p749
                          replace q749 := eq_true q749
                          go_wp2_with (first | ((with_reducible refine gate_callee (f := 96) rfl ?_); refine gm (some 34) Try.func96 #[.int .i64 ((rd_T176 l0 x8_2).f0), .int .i64 0, .int .i64 5] ?_; (with_reducible refine (spec_l1In.calls ((rd_T176 l0 x8_2).f0) 0 5 false _ A18.out).mono ?_); rintro e w' ⟨rfl, ⟨nd, rfl⟩⟩; refine ⟨_, rfl, ?_⟩))
                          (try simp only [← hl6_2])
                          go_roundg k2
                          case measure => have := HK1.out; have := HK2.out; omega
                          case rel => exact ⟨(x6_2), (wrap64 (x8_2 + 1)), (by first | rfl | (simp; done) | (simp [*]; done)), H', ⟨by have := HK1.out; have := HK2.out; omega⟩, ⟨by (try simp only [hl6_1]); (try simp only [hl6_2]); (with_reducible repeat (first | apply Kd.R_alloc | apply Kd.R_drewN | apply Kd.R_drew)); exact HO_5.out⟩, ⟨by (try simp only [hl6_1]); (try simp only [hl6_2]); (with_reducible repeat (first | apply Kd.R_alloc | apply Kd.R_drewN | apply Kd.R_drew)); exact HO_6.out⟩, ⟨bb HB.out⟩⟩
                      · rw [if_neg c17] at H
                        exact absurd H (by simp)
                    · rw [if_neg c16] at H
                      have c16b0 : decide (x8_2 < (l0.length : Int)) = false := decide_eq_false c16
                      clear c16
                      have H' := Aside0.mk H
                      clear H
                      go_wp2
                      (try simp only [← hl6_1, ← hl6_2])
                      go_roundg k2
                      case measure => have := HK1.out; have := HK2.out; omega
                      case rel => exact ⟨(x6_2), (wrap64 (x7_1 + 1)), (by first | rfl | (simp; done) | (simp [*]; done)), H', ⟨by have := HK1.out; have := HK2.out; omega⟩, ⟨by (try simp only [hl6_1]); (try simp only [hl6_2]); (with_reducible repeat (first | apply Kd.R_alloc | apply Kd.R_drewN | apply Kd.R_drew)); exact HO_5.out⟩, ⟨by (try simp only [hl6_1]); (try simp only [hl6_2]); (with_reducible repeat (first | apply Kd.R_alloc | apply Kd.R_drewN | apply Kd.R_drew)); exact HO_6.out⟩, ⟨bb HB.out⟩⟩
              · rw [if_neg c15] at H
                have c15b0 : decide (x7_1 ≤ 5) = false := decide_eq_false c15
                clear c15
                have H' := Aside0.mk H
                clear H
                go_wp2
                go_loopg [5, 9] k1 (fun kq v5 v9 w' => ∃ (x5_2 : List Int) (x9_2 : Int), v9 = .int .i64 x9_2 ∧ Aside0 (spec_RolesUnder.l2 kq x5_2 x6_1 x9_2 = some r) ∧ Aside0 (kq ≤ k1) ∧ Aside0 (Kd.R (Kd.int .i64) 3 w' w.heap.size (fun _ => True) v5 x5_2) ∧ Aside0 (Kd.R Kd.bool 4 w' w.heap.size (fun _ => True) (.slice (some ⟨go8, 0, none⟩) x6_1.length co8) x6_1) ∧ Aside0 (Below w.heap.size w w'))
                case atStart => exact ⟨(y741), (0), (by first | rfl | (simp; done) | (simp [*]; done)), H', ⟨Nat.le_refl _⟩, ⟨by (try simp only [hl6_1]); (with_reducible repeat (first | apply Kd.R_alloc | apply Kd.R_drewN | apply Kd.R_drew)); exact HO_5.out⟩, ⟨by (try simp only [hl6_1]); (with_reducible repeat (first | apply Kd.R_alloc | apply Kd.R_drewN | apply Kd.R_drew)); exact HO_6.out⟩, ⟨bb HB.out⟩⟩
                case round =>
                  clear H'
                  try clear c1
                  try clear c2
                  try clear p2
                  try clear q2
                  try clear hx2
                  try clear hf2
                  try clear c4
                  try clear c5
                  try clear c5b0
                  try clear c5b1
                  try clear c6
                  try clear c6b0
                  try clear p6
                  try clear c7
                  try clear c7b0
                  try clear p7
                  try clear q7
                  try clear hx7
                  try clear p8
                  try clear q8
                  try clear hx8
                  try clear hf8
                  try clear c9
                  try clear c15
                  try clear c15b0
                  try clear c16
                  try clear c16b0
                  try clear c17
                  try clear c17b0
                  try clear c19
                  try clear c21
                  try clear c22
                  try clear c22b0
                  try clear c23
                  try clear c23b0
                  try clear c24
                  try clear q24
                  try clear c25
                  try clear c26
                  try clear c26b0
                  try clear c27
                  try clear c27b0
                  try clear p28
                  try clear q28
                  try clear hx28
                  try clear hf28
                  try clear hx28_0
                  try clear hx749_0
                  try clear hx749_1
                  try clear hx751_0
                  try clear hx751_1
                  try clear hx753_0
                  try clear hx753_1
                  try clear hx754_0
                  try clear hx755_0
                  try clear hx755_1
                  try clear hx8_0
                  try clear p2
                  try clear p28
                  try clear p749
                  try clear p751
                  try clear p753
                  try clear p754
                  try clear p755
                  try clear p8
                  try clear q28
                  try clear q749
                  try clear q751
                  try clear q753
                  try clear q754
                  try clear q755
                  try clear q8
                  obtain ⟨x5_2, x9_2, rfl, HA, HK2, HO_5, HO_6, HB⟩ := hrel
                  cases gk with
                  | zero => exact absurd HA.out (by simp [spec_RolesUnder.l2])
                  | succ k2 =>
                    have H := HA.out
                    clear HA
                    simp only [spec_RolesUnder.l2] at H
                    by_cases c31 : x9_2 ≤ 5
                    · rw [if_pos c31] at H
                      have c31b0 : decide (x9_2 ≤ 5) = true := decide_eq_true c31
                      clear c31
                      by_cases c32 : 0 ≤ x9_2
                      · rw [if_pos c32] at H
                        have c32b0 : decide (0 ≤ x9_2) = true := decide_eq_true c32
                        clear c32
                        by_cases c33 : x9_2 < (x6_1.length : Int)
                        · rw [if_pos c33] at H
                          have c33b0 : decide (x9_2 < (x6_1.length : Int)) = true := decide_eq_true c33
                          clear c33
                          obtain ⟨bq34, hbq34⟩ : ∃ b_ : Bool, b_ = (rdOf false x6_1 x9_2) := ⟨_, rfl⟩
                          replace H : (if bq34 = true then (if x5_2.length < 17592186044416 then (spec_RolesUnder.l2 k2 (x5_2 ++ [x9_2]) x6_1 (wrap64 (x9_2 + 1))) else (none)) else (spec_RolesUnder.l2 k2 x5_2 x6_1 (wrap64 (x9_2 + 1)))) = some r := by rw [← hbq34] at H; exact H
                          have Nbq34 := Aside0.mk hbq34
                          clear hbq34
                          by_cases c35 : bq34 = true
                          · subst c35
                            have H1 : (if x5_2.length < 17592186044416 then (spec_RolesUnder.l2 k2 (x5_2 ++ [x9_2]) x6_1 (wrap64 (x9_2 + 1))) else (none)) = some r := by rw [if_pos rfl] at H; exact H
                            clear H
                            have H := H1
                            clear H1
                            by_cases c36 : x5_2.length < 17592186044416
                            · rw [if_pos c36] at H
                              have LMc36 := Aside0.mk c36
                              clear c36
                              obtain ⟨y758, hy758⟩ : ∃ y_ : List Int, y_ = (x5_2 ++ [x9_2]) := ⟨_, rfl⟩
                              replace H : (spec_RolesUnder.l2 k2 y758 x6_1 (wrap64 (x9_2 + 1))) = some r := by first | (rw [hy758]; with_reducible exact H) | (have H2_ := (Option.bind_some _ _).symm.trans H; rw [hy758]; with_reducible exact H2_) | (have H2_ := (Option.bind_some _ _).symm.trans H; with_reducible exact H2_) | with_reducible exact H | (rw [hy758]; exact H) | exact H
                              have Ny758 := Aside0.mk hy758
                              clear hy758
                              have H' := Aside0.mk H
                              clear H
                              have p757 : 0 ≤ (x9_2 : Int) := of_decide_eq_true (by first | (with_reducible assumption) | assumption)
                              have q757 : x9_2 < (x6_1.length : Int) := of_decide_eq_true (by first | (with_reducible assumption) | assumption)
                              obtain ⟨ad757, e757, hx757_0⟩ := Kd.at_bool (Kd.R_reads' HO_6.out).2.2 x9_2 p757 q757
                              (try rw [← Nbq34.out] at hx757_0)
                              obtain rfl : (⟨go8, 0, none⟩ : Addr) = ad757 := (by injection e757)
                              (first | simp only [add_plain] at hx757_0 | simp only [add_at] at hx757_0 | simp only [Addr.add, Nat.zero_add] at hx757_0 | skip)
                              replace p757 := eq_true p757
                              replace q757 := eq_true q757
                              go_wp2_with (first | ((with_reducible refine gate_builtin (b := .append) (xs := #[.tmp 68, .tmp 70]) rfl ?_); at_builtin; refine Kd.R_append (Kd.int .i64) (w0 := w) w.heap.size rfl (.tmp 68) (.tmp 70) 26 3 (.int .i64 0) 8 rfl Try.underlying26 info3 rfl (by decide) (by omega) u5 x5_2 x9_2 [.int .i64 x9_2] (fun _ => True) (fun _ => False) rfl rfl ?aP (fun _ hk => hk.elim) ?aF ?aO ?aB ?aS ?aL ?_; (case aP => exact rfl); (case aB => exact (bb HB.out)); (case aF => exact (fun _ _ => trivial)); (case aO => exact (rr HO_5.out)); (case aS => exact (below_size (bb HB.out))); (case aL => have := LMc36.out; omega); intro v759 w37 ho hb hg hat; rw [← Ny758.out] at ho; have n0_ := Aside0.mk (Kd.R_over' (rr HO_6.out) (Kd.R_typed (rr HO_5.out)) (by decide) hg); have n1_ := Aside0.mk (hb); have n2_ := Aside0.mk (ho); clear HO_6; clear HB; clear HO_5; have HO_6 := n0_; have HB := n1_; have HO760 := n2_; clear n0_ n1_ n2_; clear ho hb hg hat))
                              go_roundg k2
                              case measure => have := HK1.out; have := HK2.out; omega
                              case rel => exact ⟨(y758), (wrap64 (x9_2 + 1)), (by first | rfl | (simp; done) | (simp [*]; done)), H', ⟨by have := HK1.out; have := HK2.out; omega⟩, ⟨by (try simp only [hl6_1]); (with_reducible repeat (first | apply Kd.R_alloc | apply Kd.R_drewN | apply Kd.R_drew)); exact HO760.out⟩, ⟨by (try simp only [hl6_1]); (with_reducible repeat (first | apply Kd.R_alloc | apply Kd.R_drewN | apply Kd.R_drew)); exact HO_6.out⟩, ⟨bb HB.out⟩⟩
                            · rw [if_neg c36] at H
                              exact absurd H (by simp)
                          · replace c35 := Bool.eq_false_iff.mpr c35
                            subst c35
                            have H1 : (spec_RolesUnder.l2 k2 x5_2 x6_1 (wrap64 (x9_2 + 1))) = some r := by rw [if_neg (show ¬ (false = true) by decide)] at H; exact H
                            clear H
                            have H := H1
                            clear H1
                            have H' := Aside0.mk H
                            clear H
                            have p757 : 0 ≤ (x9_2 : Int) := of_decide_eq_true (by first | (with_reducible assumption) | assumption)
                            have q757 : x9_2 < (x6_1.length : Int) := of_decide_eq_true (by first | (with_reducible assumption) | assumption)
                            obtain ⟨ad757, e757, hx757_0⟩ := Kd.at_bool (Kd.R_reads' HO_6.out).2.2 x9_2 p757 q757
                            (try rw [← Nbq34.out] at hx757_0)
                            obtain rfl : (⟨go8, 0, none⟩ : Addr) = ad757 := (by injection e757)
                            (first | simp only [add_plain] at hx757_0 | simp only [add_at] at hx757_0 | simp only [Addr.add, Nat.zero_add] at hx757_0 | skip)
                            replace p757 := eq_true p757
                            replace q757 := eq_true q757
                            go_wp2
                            go_roundg k2
                            case measure => have := HK1.out; have := HK2.out; omega
                            case rel => exact ⟨(x5_2), (wrap64 (x9_2 + 1)), (by first | rfl | (simp; done) | (simp [*]; done)), H', ⟨by have := HK1.out; have := HK2.out; omega⟩, ⟨by (try simp only [hl6_1]); (with_reducible repeat (first | apply Kd.R_alloc | apply Kd.R_drewN | apply Kd.R_drew)); exact HO_5.out⟩, ⟨by (try simp only [hl6_1]); (with_reducible repeat (first | apply Kd.R_alloc | apply Kd.R_drewN | apply Kd.R_drew)); exact HO_6.out⟩, ⟨bb HB.out⟩⟩
                        · rw [if_neg c33] at H
                          exact absurd H (by simp)
                      · rw [if_neg c32] at H
                        exact absurd H (by simp)
                    · rw [if_neg c31] at H
                      have c31b0 : decide (x9_2 ≤ 5) = false := decide_eq_false c31
                      clear c31
                      obtain rfl := Option.some.inj H
                      go_wp2
                      go_ret
                      exact ⟨_, by first | rfl | (simp [errW_none, errW_some] <;> rfl) | (simp [*, errW_none, errW_some] <;> rfl), rr HO_5.out, bb HB.out⟩
        · rw [if_neg c7] at H
          exact absurd H (by simp)
      · rw [if_neg c6] at H
        exact absurd H (by simp)
    · rw [if_neg c5] at H
      exact absurd H (by simp)
  · replace c4 := Bool.eq_false_iff.mpr c4
    subst c4
    have H1 : (some y741) = some r := by rw [if_neg (show ¬ (false = true) by decide)] at H; exact H
    clear H
    have H := H1
    clear H1
    obtain rfl := Option.some.inj H
    go_enter Try.func248, Try.ntmps248
    go_wp2_with (first | ((with_reducible refine gate_dst (N := 10) rfl ?_); refine Kd.R_lit (Kd.int .i64) _ 3 ?hg (N := 10) ?hd (xs := ([] : List Int)) (inner := []) (ok := fun _ => True) (okp := fun _ => True) ?hr ?hp (fun _ hk => hk) trivial (Below.refl _ _) (Nat.le_refl _) (by simp) ?_; (case hd => rfl); (case hg => rfl); (case hr => first | (go_simp; done) | (go_simp; rfl)); (case hp => exact (Reps.none _ _)); intro v742 w38 ho39 hb hg_ hnew_; clear hg_ hnew_; (first | rw [← Ny741.out] at ho39 | (simp only [Int.reduceToNat] at ho39; rw [← Ny741.out] at ho39)); have n0_ := Aside0.mk (Kd.R_lower ho39 (below_size (bb HB.out))); have n1_ := Aside0.mk (below_step (bb HB.out) hb); clear HB; have HO743 := n0_; have HB := n1_; clear n0_ n1_; clear hb ho39) | ((with_reducible refine gate_callee (f := 96) rfl ?_); refine gm (some 12) Try.func96 #[.int .i64 a1, .int .i64 0, .int .i64 5] ?_; (with_reducible refine (spec_l1In.calls a1 0 5 false _ A3.out).mono ?_); rintro e w' ⟨rfl, ⟨nd, rfl⟩⟩; refine ⟨_, rfl, ?_⟩))
    go_ret
    exact ⟨_, by first | rfl | (simp [errW_none, errW_some] <;> rfl) | (simp [*, errW_none, errW_some] <;> rfl), rr HO743.out, bb HB.out⟩
end Go.Proofs.Ytbfochojhmggfaa.R
end
section
namespace Go.Proofs.Ytbfochojhmggfaa.R
open Go.RowKit Go.Proofs.YtbfochojhmggfaaW.PrintWords Go.Proofs.YtbfochojhmggfaaW.PrintLast Go.Proofs.YtbfochojhmggfaaW.PrintMore
attribute [local go_sem] max2_int min2_int max_two min_two max_three min_three max_four min_four
set_option linter.unusedVariables false
set_option linter.unusedSimpArgs false
mutual
def spec_RolesOf.l0 : Nat → List (S176) → List (S119) → Int → Int → Int → List Bool → Int → Option (List Int)
  | 0, _, _, _, _, _, _, _ => none
  | k + 1, x0, x1, x2, x3, x4, x11, x12 => if x12 < (x1.length : Int) then (if 0 ≤ x12 then (if ((rd_T119 x1 x12).f0) = 1 then (if ((rd_T119 x1 x12).f1) = x2 then ((spec_HoldsAt.f ((rd_T119 x1 x12).f0) ((rd_T119 x1 x12).f1) ((rd_T119 x1 x12).f2) ((rd_T119 x1 x12).f3) ((rd_T119 x1 x12).f4) ((rd_T119 x1 x12).f5) x3 x4).bind fun t767 => (spec_RolesOf.j1 k x0 x1 x2 x3 x4 x11 x12 (!t767))) else (spec_RolesOf.j1 k x0 x1 x2 x3 x4 x11 x12 true)) else (spec_RolesOf.j1 k x0 x1 x2 x3 x4 x11 x12 true)) else (none)) else (spec_RolesOf.l2 k x11 (([] : List Int)) 0)
def spec_RolesOf.j1 : Nat → List (S176) → List (S119) → Int → Int → Int → List Bool → Int → Bool → Option (List Int)
  | 0, _, _, _, _, _, _, _, _ => none
  | k + 1, x0, x1, x2, x3, x4, x11, x12, x48 => if x48 = true then (spec_RolesOf.l0 k x0 x1 x2 x3 x4 x11 (wrap64 (x12 + 1))) else (if 0 ≤ x12 then (if x12 < (x1.length : Int) then ((spec_RolesUnder.f k x0 ((rd_T119 x1 x12).f2)).bind fun t769 => (spec_RolesOf.l1 k x0 x1 x2 x3 x4 x11 x12 t769 0)) else (none)) else (none))
def spec_RolesOf.l1 : Nat → List (S176) → List (S119) → Int → Int → Int → List Bool → Int → List Int → Int → Option (List Int)
  | 0, _, _, _, _, _, _, _, _, _ => none
  | k + 1, x0, x1, x2, x3, x4, x11, x12, x13, x14 => if x14 < (x13.length : Int) then (if 0 ≤ x14 then (if 0 ≤ (rd x13 x14) then (if (rd x13 x14) < (x11.length : Int) then (spec_RolesOf.l1 k x0 x1 x2 x3 x4 (x11.set ((rd x13 x14) : Int).toNat true) x12 x13 (wrap64 (x14 + 1))) else (none)) else (none)) else (none)) else (spec_RolesOf.l0 k x0 x1 x2 x3 x4 x11 (wrap64 (x12 + 1)))
def spec_RolesOf.l2 : Nat → List Bool → List Int → Int → Option (List Int)
  | 0, _, _, _ => none
  | k + 1, x11, x15, x16 => if x16 ≤ 5 then (if 0 ≤ x16 then (if x16 < (x11.length : Int) then (if rdOf false x11 x16 = true then (if x15.length < 17592186044416 then (spec_RolesOf.l2 k x11 (x15 ++ [x16]) (wrap64 (x16 + 1))) else (none)) else (spec_RolesOf.l2 k x11 x15 (wrap64 (x16 + 1)))) else (none)) else (none)) else (some x15)
end
def spec_RolesOf.f (k : Nat) (l0 : List (S176)) (l1 : List (S119)) (a2 : Int) (a3 : Int) (a4 : Int) : Option (List Int) := if 6 ≤ 281474976710656 then (spec_RolesOf.l0 k l0 l1 a2 a3 a4 (List.replicate 6 false) 0) else (none)
set_option maxHeartbeats 8000000 in
set_option maxRecDepth 100000 in
theorem spec_RolesOf.calls (k : Nat) (A0 : Option Addr) (c0 : Nat) (l0 : List (S176)) (A1 : Option Addr) (c1 : Nat) (l1 : List (S119)) (a2 : Int) (a3 : Int) (a4 : Int) (r : List Int) (w : World) (hr0 : Kd.C k176 w A0 l0.length l0) (hc0 : l0.length ≤ c0) (hr1 : Kd.C k119 w A1 l1.length l1) (hc1 : l1.length ≤ c1) (h : spec_RolesOf.f k l0 l1 a2 a3 a4 = some r) :
    Calls Try.prog 202 #[.slice A0 l0.length c0, .slice A1 l1.length c1, .int .i64 a2, .int .i64 a3, .int .i64 a4] w fun e w' => ∃ v0_ : Value, e = .returned (v0_) ∧ Kd.R (Kd.int .i64) 3 w' w.heap.size (fun _ => True) v0_ r ∧ Below w.heap.size w w' := by
  have hu119 := Try.underlying119
  have HR0 := Aside0.mk hr0
  have HC0 := Aside0.mk hc0
  clear hr0 hc0
  have HR1 := Aside0.mk hr1
  have HC1 := Aside0.mk hc1
  clear hr1 hc1
  have HB := Aside0.mk (Below.refl w.heap.size w)
  have H : (if 6 ≤ 281474976710656 then (spec_RolesOf.l0 k l0 l1 a2 a3 a4 (List.replicate 6 false) 0) else (none)) = some r := h
  clear h
  by_cases c6 : 6 ≤ 281474976710656
  · rw [if_pos c6] at H
    have c6b0 := eq_true c6
    have c6b1 : decide (6 ≤ 281474976710656) = true := decide_eq_true c6
    clear c6
    obtain ⟨y761, hy761⟩ : ∃ y_ : List Bool, y_ = (List.replicate 6 false) := ⟨_, rfl⟩
    replace H : (spec_RolesOf.l0 k l0 l1 a2 a3 a4 y761 0) = some r := by first | (rw [hy761]; with_reducible exact H) | (have H2_ := (Option.bind_some _ _).symm.trans H; rw [hy761]; with_reducible exact H2_) | (have H2_ := (Option.bind_some _ _).symm.trans H; with_reducible exact H2_) | with_reducible exact H | (rw [hy761]; exact H) | exact H
    have Ny761 := Aside0.mk hy761
    clear hy761
    have H' := Aside0.mk H
    clear H
    go_enter Try.func202, Try.ntmps202
    go_wp2_with (first | ((with_reducible refine gate_dst (N := 17) rfl ?_); refine Kd.R_make Kd.bool _ 4 rfl (N := 17) rfl 58 _ _ rfl 6 rfl rfl Try.underlying58 (.bool false) 1 info4 rfl (by decide) (by omega) false (ok := fun _ => True) (okp := fun _ => True) rfl (fun _ hk => hk) trivial (by omega) (by omega) (Below.refl _ _) (Nat.le_refl _) ?_; intro v762 w7 ho8 hb hg_ hnew_; clear hg_ hnew_; (first | rw [← Ny761.out] at ho8 | (simp only [Int.reduceToNat] at ho8; rw [← Ny761.out] at ho8)); have n0_ := Aside0.mk (Kd.R_lower ho8 (below_size (bb HB.out))); have n1_ := Aside0.mk (below_step (bb HB.out) hb); clear HB; have HO763 := n0_; have HB := n1_; clear n0_ n1_; clear hb ho8))
    go_loopg [12] k (fun kq v12 w' => ∃ (x11_1 : List Bool) (x12_1 : Int), v12 = .int .i64 x12_1 ∧ Aside0 (spec_RolesOf.l0 kq l0 l1 a2 a3 a4 x11_1 x12_1 = some r) ∧ Aside0 (kq ≤ k) ∧ Aside0 (Kd.R Kd.bool 4 w' w.heap.size (fun _ => True) v762 x11_1) ∧ Aside0 (Below w.heap.size w w'))
    case atStart => exact ⟨(y761), (0), (by first | rfl | (simp; done) | (simp [*]; done)), H', ⟨Nat.le_refl _⟩, ⟨rr HO763.out⟩, ⟨bb HB.out⟩⟩
    case round =>
      clear H'
      try clear c1
      try clear c2
      try clear p2
      try clear c6
      try clear c6b0
      try clear c6b1
      obtain ⟨x11_1, x12_1, rfl, HA, HK1, HO_11, HB⟩ := hrel
      cases gk with
      | zero => exact absurd HA.out (by simp [spec_RolesOf.l0])
      | succ k1 =>
        have H := HA.out
        clear HA
        simp only [spec_RolesOf.l0] at H
        by_cases c9 : x12_1 < (l1.length : Int)
        · rw [if_pos c9] at H
          have c9b0 : decide (x12_1 < (l1.length : Int)) = true := decide_eq_true c9
          clear c9
          have HC10 := Aside0.mk H
          clear H
          go_upto_region 5 with (fail)
          go_cut [48] (fun v48 wc => ∃ (kq : Nat) (x48_9 : Bool), v48 = .bool x48_9 ∧ Aside0 (spec_RolesOf.j1 kq l0 l1 a2 a3 a4 x11_1 x12_1 x48_9 = some r) ∧ Aside0 (kq ≤ k1) ∧ Aside0 (Kd.R Kd.bool 4 wc w.heap.size (fun _ => True) v762 x11_1) ∧ Aside0 (Below w.heap.size w wc))
          case first =>
            have H := HC10.out
            clear HC10
            by_cases c11 : 0 ≤ x12_1
            · rw [if_pos c11] at H
              have c11b0 : decide (0 ≤ x12_1) = true := decide_eq_true c11
              clear c11
              (first | rw [c11b0] | (simp only [i64_w, i32_w]; rw [c11b0]) | skip)
              by_cases c12 : ((rd_T119 l1 x12_1).f0) = 1
              · rw [if_pos c12] at H
                have c12b0 : (((rd_T119 l1 x12_1).f0) == 1) = true := beq_iff_eq.mpr c12
                have c12b1 : (((rd_T119 l1 x12_1).f0) != 1) = false := bne_eq_false_iff_eq.mpr c12
                clear c12
                by_cases c13 : ((rd_T119 l1 x12_1).f1) = a2
                · rw [if_pos c13] at H
                  have c13b0 : (((rd_T119 l1 x12_1).f1) == a2) = true := beq_iff_eq.mpr c13
                  have c13b1 : (((rd_T119 l1 x12_1).f1) != a2) = false := bne_eq_false_iff_eq.mpr c13
                  clear c13
                  replace H := Option.bind_eq_some_iff.mp H
                  obtain ⟨t767, A140, H⟩ := H
                  replace H : (spec_RolesOf.j1 k1 l0 l1 a2 a3 a4 x11_1 x12_1 (!t767)) = some r := H
                  have A14 := Aside0.mk A140
                  clear A140
                  have H' := Aside0.mk H
                  clear H
                  have p764 : 0 ≤ (x12_1 : Int) := of_decide_eq_true (by first | (with_reducible assumption) | assumption)
                  have q764 : x12_1 < (l1.length : Int) := of_decide_eq_true (by first | (with_reducible assumption) | assumption)
                  obtain ⟨ad764, e764, hx764_0, hx764_1, hx764_2, hx764_3, hx764_4, hx764_5⟩ := at_T119 HR1.out x12_1 p764 q764
                  cases e764
                  replace hx764_0 := (HB.out.cell (World.block_lt_of_cell? w _ hx764_0)).trans hx764_0
                  replace hx764_1 := (HB.out.cell (World.block_lt_of_cell? w _ hx764_1)).trans hx764_1
                  replace hx764_2 := (HB.out.cell (World.block_lt_of_cell? w _ hx764_2)).trans hx764_2
                  replace hx764_3 := (HB.out.cell (World.block_lt_of_cell? w _ hx764_3)).trans hx764_3
                  replace hx764_4 := (HB.out.cell (World.block_lt_of_cell? w _ hx764_4)).trans hx764_4
                  replace hx764_5 := (HB.out.cell (World.block_lt_of_cell? w _ hx764_5)).trans hx764_5
                  replace p764 := eq_true p764
                  replace q764 := eq_true q764
                  have p765 : 0 ≤ (x12_1 : Int) := of_decide_eq_true (by first | (with_reducible assumption) | assumption)
                  have q765 : x12_1 < (l1.length : Int) := of_decide_eq_true (by first | (with_reducible assumption) | assumption)
                  obtain ⟨ad765, e765, hx765_0, hx765_1, hx765_2, hx765_3, hx765_4, hx765_5⟩ := at_T119 HR1.out x12_1 p765 q765
                  obtain rfl : ad764 = ad765 := (by injection e765)
                  replace hx765_0 := (HB.out.cell (World.block_lt_of_cell? w _ hx765_0)).trans hx765_0
                  replace hx765_1 := (HB.out.cell (World.block_lt_of_cell? w _ hx765_1)).trans hx765_1
                  replace hx765_2 := (HB.out.cell (World.block_lt_of_cell? w _ hx765_2)).trans hx765_2
                  replace hx765_3 := (HB.out.cell (World.block_lt_of_cell? w _ hx765_3)).trans hx765_3
                  replace hx765_4 := (HB.out.cell (World.block_lt_of_cell? w _ hx765_4)).trans hx765_4
                  replace hx765_5 := (HB.out.cell (World.block_lt_of_cell? w _ hx765_5)).trans hx765_5
                  replace p765 := eq_true p765
                  replace q765 := eq_true q765
                  have p766 : 0 ≤ (x12_1 : Int) := of_decide_eq_true (by first | (with_reducible assumption) | assumption)
                  have q766 : x12_1 < (l1.length : Int) := of_decide_eq_true (by first | (with_reducible assumption) | assumption)
                  obtain ⟨ad766, e766, hx766_0, hx766_1, hx766_2, hx766_3, hx766_4, hx766_5⟩ := at_T119 HR1.out x12_1 p766 q766
                  obtain rfl : ad764 = ad766 := (by injection e766)
                  replace hx766_0 := (HB.out.cell (World.block_lt_of_cell? w _ hx766_0)).trans hx766_0
                  replace hx766_1 := (HB.out.cell (World.block_lt_of_cell? w _ hx766_1)).trans hx766_1
                  replace hx766_2 := (HB.out.cell (World.block_lt_of_cell? w _ hx766_2)).trans hx766_2
                  replace hx766_3 := (HB.out.cell (World.block_lt_of_cell? w _ hx766_3)).trans hx766_3
                  replace hx766_4 := (HB.out.cell (World.block_lt_of_cell? w _ hx766_4)).trans hx766_4
                  replace hx766_5 := (HB.out.cell (World.block_lt_of_cell? w _ hx766_5)).trans hx766_5
                  replace p766 := eq_true p766
                  replace q766 := eq_true q766
                  go_wp2_with (first | (go_at_call 203; (with_reducible refine (spec_HoldsAt.calls ((rd_T119 l1 x12_1).f0) ((rd_T119 l1 x12_1).f1) ((rd_T119 l1 x12_1).f2) ((rd_T119 l1 x12_1).f3) ((rd_T119 l1 x12_1).f4) ((rd_T119 l1 x12_1).f5) a3 a4 t767 _ A14.out).mono ?_); rintro e w15 ⟨rfl, hb⟩; have n0_ := Aside0.mk (Kd.R_below (rr HO_11.out) hb); have n1_ := Aside0.mk (below_step (bb HB.out) hb); clear HO_11; clear HB; have HO_11 := n0_; have HB := n1_; clear n0_ n1_; (try clear hb); (try clear hb2); (try clear hk); (try clear hi)))
                  go_meet
                  case rel => exact ⟨_, (!t767), (by first | rfl | (simp; done) | (simp [*]; done)), H', ⟨by have := HK1.out; first | omega | exact Nat.le_refl _⟩, ⟨rr HO_11.out⟩, ⟨bb HB.out⟩⟩
                · rw [if_neg c13] at H
                  have c13b0 : (((rd_T119 l1 x12_1).f1) == a2) = false := beq_eq_false_iff_ne.mpr c13
                  have c13b1 : (((rd_T119 l1 x12_1).f1) != a2) = true := bne_iff_ne.mpr c13
                  have H' := Aside0.mk H
                  clear H
                  have p764 : 0 ≤ (x12_1 : Int) := of_decide_eq_true (by first | (with_reducible assumption) | assumption)
                  have q764 : x12_1 < (l1.length : Int) := of_decide_eq_true (by first | (with_reducible assumption) | assumption)
                  obtain ⟨ad764, e764, hx764_0, hx764_1, hx764_2, hx764_3, hx764_4, hx764_5⟩ := at_T119 HR1.out x12_1 p764 q764
                  cases e764
                  replace hx764_0 := (HB.out.cell (World.block_lt_of_cell? w _ hx764_0)).trans hx764_0
                  replace hx764_1 := (HB.out.cell (World.block_lt_of_cell? w _ hx764_1)).trans hx764_1
                  replace hx764_2 := (HB.out.cell (World.block_lt_of_cell? w _ hx764_2)).trans hx764_2
                  replace hx764_3 := (HB.out.cell (World.block_lt_of_cell? w _ hx764_3)).trans hx764_3
                  replace hx764_4 := (HB.out.cell (World.block_lt_of_cell? w _ hx764_4)).trans hx764_4
                  replace hx764_5 := (HB.out.cell (World.block_lt_of_cell? w _ hx764_5)).trans hx764_5
                  replace p764 := eq_true p764
                  replace q764 := eq_true q764
                  have p765 : 0 ≤ (x12_1 : Int) := of_decide_eq_true (by first | (with_reducible assumption) | assumption)
                  have q765 : x12_1 < (l1.length : Int) := of_decide_eq_true (by first | (with_reducible assumption) | assumption)
                  obtain ⟨ad765, e765, hx765_0, hx765_1, hx765_2, hx765_3, hx765_4, hx765_5⟩ := at_T119 HR1.out x12_1 p765 q765
                  obtain rfl : ad764 = ad765 := (by injection e765)
                  replace hx765_0 := (HB.out.cell (World.block_lt_of_cell? w _ hx765_0)).trans hx765_0
                  replace hx765_1 := (HB.out.cell (World.block_lt_of_cell? w _ hx765_1)).trans hx765_1
                  replace hx765_2 := (HB.out.cell (World.block_lt_of_cell? w _ hx765_2)).trans hx765_2
                  replace hx765_3 := (HB.out.cell (World.block_lt_of_cell? w _ hx765_3)).trans hx765_3
                  replace hx765_4 := (HB.out.cell (World.block_lt_of_cell? w _ hx765_4)).trans hx765_4
                  replace hx765_5 := (HB.out.cell (World.block_lt_of_cell? w _ hx765_5)).trans hx765_5
                  replace p765 := eq_true p765
                  replace q765 := eq_true q765
                  go_wp2
                  go_meet
                  case rel => exact ⟨_, (true), (by first | rfl | (simp; done) | (simp [*]; done)), H', ⟨by have := HK1.out; first | omega | exact Nat.le_refl _⟩, ⟨rr HO_11.out⟩, ⟨bb HB.out⟩⟩
              · rw [if_neg c12] at H
                have c12b0 : (((rd_T119 l1 x12_1).f0) == 1) = false := beq_eq_false_iff_ne.mpr c12
                have c12b1 : (((rd_T119 l1 x12_1).f0) != 1) = true := bne_iff_ne.mpr c12
                have H' := Aside0.mk H
                clear H
                have p764 : 0 ≤ (x12_1 : Int) := of_decide_eq_true (by first | (with_reducible assumption) | assumption)
                have q764 : x12_1 < (l1.length : Int) := of_decide_eq_true (by first | (with_reducible assumption) | assumption)
                obtain ⟨ad764, e764, hx764_0, hx764_1, hx764_2, hx764_3, hx764_4, hx764_5⟩ := at_T119 HR1.out x12_1 p764 q764
                cases e764
                replace hx764_0 := (HB.out.cell (World.block_lt_of_cell? w _ hx764_0)).trans hx764_0
                replace hx764_1 := (HB.out.cell (World.block_lt_of_cell? w _ hx764_1)).trans hx764_1
                replace hx764_2 := (HB.out.cell (World.block_lt_of_cell? w _ hx764_2)).trans hx764_2
                replace hx764_3 := (HB.out.cell (World.block_lt_of_cell? w _ hx764_3)).trans hx764_3
                replace hx764_4 := (HB.out.cell (World.block_lt_of_cell? w _ hx764_4)).trans hx764_4
                replace hx764_5 := (HB.out.cell (World.block_lt_of_cell? w _ hx764_5)).trans hx764_5
                replace p764 := eq_true p764
                replace q764 := eq_true q764
                go_wp2
                go_meet
                case rel => exact ⟨_, (true), (by first | rfl | (simp; done) | (simp [*]; done)), H', ⟨by have := HK1.out; first | omega | exact Nat.le_refl _⟩, ⟨rr HO_11.out⟩, ⟨bb HB.out⟩⟩
            · rw [if_neg c11] at H
              exact absurd H (by simp)
          case rest =>
            clear HC10
            try clear c1
            try clear c2
            try clear p2
            try clear c6
            try clear c6b0
            try clear c6b1
            try clear p7
            try clear q7
            try clear hx7
            try clear c9
            try clear c9b0
            try clear c11
            try clear c11b0
            try clear c12
            try clear c12b0
            try clear c12b1
            try clear c13
            try clear c13b0
            try clear c13b1
            try clear hx764_0
            try clear hx764_1
            try clear hx764_2
            try clear hx764_3
            try clear hx764_4
            try clear hx764_5
            try clear hx765_0
            try clear hx765_1
            try clear hx765_2
            try clear hx765_3
            try clear hx765_4
            try clear hx765_5
            try clear hx766_0
            try clear hx766_1
            try clear hx766_2
            try clear hx766_3
            try clear hx766_4
            try clear hx766_5
            try clear p2
            try clear p764
            try clear p765
            try clear p766
            try clear q764
            try clear q765
            try clear q766
            obtain ⟨kq, x48_9, rfl, HA, HJ9, HO_11, HB⟩ := hcut
            cases kq with
            | zero => exact absurd HA.out (by simp [spec_RolesOf.j1])
            | succ kj9 =>
              have H := HA.out
              clear HA
              simp only [spec_RolesOf.j1] at H
              by_cases c16 : x48_9 = true
              · subst c16
                have H1 : (spec_RolesOf.l0 kj9 l0 l1 a2 a3 a4 x11_1 (wrap64 (x12_1 + 1))) = some r := by rw [if_pos rfl] at H; exact H
                clear H
                have H := H1
                clear H1
                have H' := Aside0.mk H
                clear H
                go_wp2
                go_roundg kj9
                case measure => have := HK1.out; have := HJ9.out; omega
                case rel => exact ⟨(x11_1), (wrap64 (x12_1 + 1)), (by first | rfl | (simp; done) | (simp [*]; done)), H', ⟨by have := HK1.out; have := HJ9.out; omega⟩, ⟨rr HO_11.out⟩, ⟨bb HB.out⟩⟩
              · replace c16 := Bool.eq_false_iff.mpr c16
                subst c16
                have H1 : (if 0 ≤ x12_1 then (if x12_1 < (l1.length : Int) then ((spec_RolesUnder.f kj9 l0 ((rd_T119 l1 x12_1).f2)).bind fun t769 => (spec_RolesOf.l1 kj9 l0 l1 a2 a3 a4 x11_1 x12_1 t769 0)) else (none)) else (none)) = some r := by rw [if_neg (show ¬ (false = true) by decide)] at H; exact H
                clear H
                have H := H1
                clear H1
                by_cases c17 : 0 ≤ x12_1
                · rw [if_pos c17] at H
                  have c17b0 : decide (0 ≤ x12_1) = true := decide_eq_true c17
                  clear c17
                  by_cases c18 : x12_1 < (l1.length : Int)
                  · rw [if_pos c18] at H
                    have c18b0 : decide (x12_1 < (l1.length : Int)) = true := decide_eq_true c18
                    clear c18
                    replace H := Option.bind_eq_some_iff.mp H
                    obtain ⟨t769, A190, H⟩ := H
                    replace H : (spec_RolesOf.l1 kj9 l0 l1 a2 a3 a4 x11_1 x12_1 t769 0) = some r := H
                    have A19 := Aside0.mk A190
                    clear A190
                    have H' := Aside0.mk H
                    clear H
                    have p768 : 0 ≤ (x12_1 : Int) := of_decide_eq_true (by first | (with_reducible assumption) | assumption)
                    have q768 : x12_1 < (l1.length : Int) := of_decide_eq_true (by first | (with_reducible assumption) | assumption)
                    obtain ⟨ad768, e768, hx768_0, hx768_1, hx768_2, hx768_3, hx768_4, hx768_5⟩ := at_T119 HR1.out x12_1 p768 q768
                    cases e768
                    replace hx768_0 := (HB.out.cell (World.block_lt_of_cell? w _ hx768_0)).trans hx768_0
                    replace hx768_1 := (HB.out.cell (World.block_lt_of_cell? w _ hx768_1)).trans hx768_1
                    replace hx768_2 := (HB.out.cell (World.block_lt_of_cell? w _ hx768_2)).trans hx768_2
                    replace hx768_3 := (HB.out.cell (World.block_lt_of_cell? w _ hx768_3)).trans hx768_3
                    replace hx768_4 := (HB.out.cell (World.block_lt_of_cell? w _ hx768_4)).trans hx768_4
                    replace hx768_5 := (HB.out.cell (World.block_lt_of_cell? w _ hx768_5)).trans hx768_5
                    replace p768 := eq_true p768
                    replace q768 := eq_true q768
                    go_wp2_with (first | ((with_reducible refine gate_callee (f := 248) rfl ?_); refine gm (some 55) Try.func248 #[.slice A0 l0.length c0, .int .i64 ((rd_T119 l1 x12_1).f2)] ?_; (with_reducible refine (spec_RolesUnder.calls kj9 _ _ l0 ((rd_T119 l1 x12_1).f2) t769 _ ?side1 ?side2 A19.out).mono ?_); (case side1 => repeat (first | exact (Kd.C_below HR0.out HB.out) | (with_reducible refine Kd.C_alloc ?_ _) | (with_reducible refine Kd.C_drewN ?_ _) | (with_reducible refine Kd.C_drew ?_))); (case side2 => exact HC0.out); rintro e w20 ⟨v770, rfl, ho0, hb⟩; refine ⟨_, rfl, ?_⟩; have n0_ := Aside0.mk (Kd.R_below (rr HO_11.out) hb); have n1_ := Aside0.mk (Kd.R_lower ho0 (below_size (bb HB.out))); have n2_ := Aside0.mk (below_step (bb HB.out) hb); clear HO_11; clear HB; have HO_11 := n0_; have HO771 := n1_; have HB := n2_; clear n0_ n1_ n2_; (try clear hb); (try clear hb2); (try clear hk); (try clear hi); (try clear ho0)))
                    go_loopg [14] kj9 (fun kq v14 w' => ∃ (x11_3 : List Bool) (x14_3 : Int), v14 = .int .i64 x14_3 ∧ Aside0 (spec_RolesOf.l1 kq l0 l1 a2 a3 a4 x11_3 x12_1 t769 x14_3 = some r) ∧ Aside0 (kq ≤ kj9) ∧ Aside0 (Kd.R Kd.bool 4 w' w.heap.size (fun _ => True) v762 x11_3) ∧ Aside0 (Kd.R (Kd.int .i64) 3 w' w.heap.size (fun _ => True) v770 t769) ∧ Aside0 (Below w.heap.size w w'))
                    case atStart => exact ⟨(x11_1), (0), (by first | rfl | (simp; done) | (simp [*]; done)), H', ⟨Nat.le_refl _⟩, ⟨rr HO_11.out⟩, ⟨rr HO771.out⟩, ⟨bb HB.out⟩⟩
                    case round =>
                      clear H'
                      try clear c1
                      try clear c2
                      try clear p2
                      try clear c6
                      try clear c6b0
                      try clear c6b1
                      try clear p6
                      try clear p7
                      try clear q7
                      try clear hx7
                      try clear c9
                      try clear c9b0
                      try clear c11
                      try clear c11b0
                      try clear c12
                      try clear c12b0
                      try clear c12b1
                      try clear c13
                      try clear c13b0
                      try clear c13b1
                      try clear c16
                      try clear c17
                      try clear c17b0
                      try clear c18
                      try clear c18b0
                      try clear c20
                      try clear hx764_0
                      try clear hx764_1
                      try clear hx764_2
                      try clear hx764_3
                      try clear hx764_4
                      try clear hx764_5
                      try clear hx765_0
                      try clear hx765_1
                      try clear hx765_2
                      try clear hx765_3
                      try clear hx765_4
                      try clear hx765_5
                      try clear hx766_0
                      try clear hx766_1
                      try clear hx766_2
                      try clear hx766_3
                      try clear hx766_4
                      try clear hx766_5
                      try clear hx768_0
                      try clear hx768_1
                      try clear hx768_2
                      try clear hx768_3
                      try clear hx768_4
                      try clear hx768_5
                      try clear p2
                      try clear p7
                      try clear p764
                      try clear p765
                      try clear p766
                      try clear p768
                      try clear q7
                      try clear q764
                      try clear q765
                      try clear q766
                      try clear q768
                      obtain ⟨x11_3, x14_3, rfl, HA, HK3, HO_11, HO_13, HB⟩ := hrel
                      cases gk with
                      | zero => exact absurd HA.out (by simp [spec_RolesOf.l1])
                      | succ k3 =>
                        have H := HA.out
                        clear HA
                        simp only [spec_RolesOf.l1] at H
                        by_cases c21 : x14_3 < (t769.length : Int)
                        · rw [if_pos c21] at H
                          have c21b0 : decide (x14_3 < (t769.length : Int)) = true := decide_eq_true c21
                          clear c21
                          by_cases c22 : 0 ≤ x14_3
                          · rw [if_pos c22] at H
                            have c22b0 : decide (0 ≤ x14_3) = true := decide_eq_true c22
                            clear c22
                            by_cases c23 : 0 ≤ (rd t769 x14_3)
                            · rw [if_pos c23] at H
                              have c23b0 : decide (0 ≤ (rd t769 x14_3)) = true := decide_eq_true c23
                              clear c23
                              by_cases c24 : (rd t769 x14_3) < (x11_3.length : Int)
                              · rw [if_pos c24] at H
                                have c24b0 : decide ((rd t769 x14_3) < (x11_3.length : Int)) = true := decide_eq_true c24
                                clear c24
                                obtain ⟨y773, hy773⟩ : ∃ y_ : List Bool, y_ = (x11_3.set ((rd t769 x14_3) : Int).toNat true) := ⟨_, rfl⟩
                                replace H : (spec_RolesOf.l1 k3 l0 l1 a2 a3 a4 y773 x12_1 t769 (wrap64 (x14_3 + 1))) = some r := by first | (rw [hy773]; with_reducible exact H) | (have H2_ := (Option.bind_some _ _).symm.trans H; rw [hy773]; with_reducible exact H2_) | (have H2_ := (Option.bind_some _ _).symm.trans H; with_reducible exact H2_) | with_reducible exact H | (rw [hy773]; exact H) | exact H
                                have Ny773 := Aside0.mk hy773
                                clear hy773
                                have H' := Aside0.mk H
                                clear H
                                obtain ⟨Ao26, co26, eo26⟩ := Kd.R_slice HO_13.out
                                subst eo26
                                have p772 : 0 ≤ (x14_3 : Int) := of_decide_eq_true (by first | (with_reducible assumption) | assumption)
                                have q772 : x14_3 < (t769.length : Int) := of_decide_eq_true (by first | (with_reducible assumption) | assumption)
                                obtain ⟨ad772, e772, hx772_0⟩ := Kd.at_int (Kd.R_reads' HO_13.out).2.2 x14_3 p772 q772
                                cases e772
                                replace p772 := eq_true p772
                                replace q772 := eq_true q772
                                have p25 : 0 ≤ ((rd t769 x14_3) : Int) := of_decide_eq_true (by first | (with_reducible assumption) | assumption)
                                have q25 : ((rd t769 x14_3) : Int) < ((x11_3.length : Int) : Int) := of_decide_eq_true (by first | (with_reducible assumption) | assumption)
                                obtain ⟨go25, co25, eo25, gb25, gl25, cl25, HG25⟩ := Kd.R_form HO_11.out (by omega)
                                (first | cases eo25 | (injection eo25 with ea_ en_ ec_; (first | subst ea_ | (injection ea_ with ea_; subst ea_)); subst ec_; clear en_))
                                have GB25 := Aside0.mk gb25
                                have GG25 := Aside0.mk HG25
                                clear gb25 gl25 HG25
                                obtain ⟨hx25_0, hf25_0⟩ := Kd.R_celln false HO_11.out ((rd t769 x14_3) : Int) p25 q25
                                replace p25 := eq_true p25
                                replace q25 := eq_true q25
                                have HP27 := Kd.R_putg HO_11.out ((rd t769 x14_3) : Int) true
                                go_wp2_with (first | ((with_reducible refine gate_store (t := 4) (p := 67) rfl ?_); refine store_event (t := 4) (p := 67) (v := ?vo_w28) (w1 := (wr.setCell ⟨go25, ((rd t769 x14_3) : Int).toNat, none⟩ (.bool true))) ?hg ?ho ?hn ?hr ?_; (case ho => rfl); (case hg => rfl); (case hn => rfl); (case hr => first | (go_simp; done) | (go_simp; rfl) | (obtain ⟨A_, c_, e_⟩ := Kd.R_slice HO_11.out; subst e_; first | (go_simp; done) | (go_simp; rfl)) | (obtain ⟨A_, c_, e_⟩ := Kd.R_slice HO_13.out; subst e_; first | (go_simp; done) | (go_simp; rfl))); intro w28 hw; have hg : wr.grownBy w28 (some go25) := (by rw [hw]; exact HP27.2); have hp_ : Kd.R Kd.bool 4 w28 w.heap.size (fun _ => True) (.slice (some ⟨go25, 0, none⟩) x11_3.length co25) y773 := (by rw [hw, Ny773.out]; exact HP27.1); clear HP27; have n0_ := Aside0.mk (hp_); have n1_ := Aside0.mk (Kd.R_over' (v := (.slice (some ⟨go25, 0, none⟩) x11_3.length co25)) (rr HO_13.out) (Kd.R_typed HO_11.out) (by decide) hg); have n2_ := Aside0.mk ((by rw [hw]; exact below_set (HB.out) GB25.out : Below w.heap.size w w28)); clear HO_11; clear HO_13; clear HB; have HO_11 := n0_; have HO_13 := n1_; have HB := n2_; clear n0_ n1_ n2_; clear hg hw hp_))
                                go_roundg k3
                                case measure => have := HK1.out; have := HJ9.out; have := HK3.out; omega
                                case rel => exact ⟨(y773), (wrap64 (x14_3 + 1)), (by first | rfl | (simp; done) | (simp [*]; done)), H', ⟨by have := HK1.out; have := HJ9.out; have := HK3.out; omega⟩, ⟨rr HO_11.out⟩, ⟨rr HO_13.out⟩, ⟨bb HB.out⟩⟩
                              · rw [if_neg c24] at H
                                exact absurd H (by simp)
                            · rw [if_neg c23] at H
                              exact absurd H (by simp)
                          · rw [if_neg c22] at H
                            exact absurd H (by simp)
                        · rw [if_neg c21] at H
                          have c21b0 : decide (x14_3 < (t769.length : Int)) = false := decide_eq_false c21
                          clear c21
                          have H' := Aside0.mk H
                          clear H
                          obtain ⟨Ao29, co29, eo29⟩ := Kd.R_slice HO_13.out
                          subst eo29
                          go_wp2
                          go_roundg k3
                          case measure => have := HK1.out; have := HJ9.out; have := HK3.out; omega
                          case rel => exact ⟨(x11_3), (wrap64 (x12_1 + 1)), (by first | rfl | (simp; done) | (simp [*]; done)), H', ⟨by have := HK1.out; have := HJ9.out; have := HK3.out; omega⟩, ⟨rr HO_11.out⟩, ⟨bb HB.out⟩⟩
                  · rw [if_neg c18] at H
                    exact absurd H (by simp)
                · rw [if_neg c17] at H
                  exact absurd H (by simp)
        · rw [if_neg c9] at H
          have c9b0 : decide (x12_1 < (l1.length : Int)) = false := decide_eq_false c9
          clear c9
          obtain ⟨y774, hy774⟩ : ∃ y_ : List Int, y_ = (([] : List Int)) := ⟨_, rfl⟩
          replace H : (spec_RolesOf.l2 k1 x11_1 y774 0) = some r := by first | (rw [hy774]; with_reducible exact H) | (have H2_ := (Option.bind_some _ _).symm.trans H; rw [hy774]; with_reducible exact H2_) | (have H2_ := (Option.bind_some _ _).symm.trans H; with_reducible exact H2_) | with_reducible exact H | (rw [hy774]; exact H) | exact H
          have Ny774 := Aside0.mk hy774
          clear hy774
          have H' := Aside0.mk H
          clear H
          go_wp2_with (first | ((with_reducible refine gate_dst (N := 68) rfl ?_); refine Kd.R_lit (Kd.int .i64) _ 3 ?hg (N := 68) ?hd (xs := ([] : List Int)) (inner := []) (ok := fun _ => True) (okp := fun _ => True) ?hr ?hp (fun _ hk => hk) trivial (Below.refl _ _) (Nat.le_refl _) (by simp) ?_; (case hd => rfl); (case hg => rfl); (case hr => first | (go_simp; done) | (go_simp; rfl)); (case hp => exact (Reps.none _ _)); intro v775 w30 ho31 hb hg_ hnew_; clear hg_ hnew_; (first | rw [← Ny774.out] at ho31 | (simp only [Int.reduceToNat] at ho31; rw [← Ny774.out] at ho31)); have n0_ := Aside0.mk (Kd.R_below (rr HO_11.out) hb); have n1_ := Aside0.mk (Kd.R_lower ho31 (below_size (bb HB.out))); have n2_ := Aside0.mk (below_step (bb HB.out) hb); clear HO_11; clear HB; have HO_11 := n0_; have HO776 := n1_; have HB := n2_; clear n0_ n1_ n2_; clear hb ho31))
          go_loopg [15, 16] k1 (fun kq v15 v16 w' => ∃ (x15_2 : List Int) (x16_2 : Int), v16 = .int .i64 x16_2 ∧ Aside0 (spec_RolesOf.l2 kq x11_1 x15_2 x16_2 = some r) ∧ Aside0 (kq ≤ k1) ∧ Aside0 (Kd.R Kd.bool 4 w' w.heap.size (fun _ => True) v762 x11_1) ∧ Aside0 (Kd.R (Kd.int .i64) 3 w' w.heap.size (fun _ => True) v15 x15_2) ∧ Aside0 (Below w.heap.size w w'))
          case atStart => exact ⟨(y774), (0), (by first | rfl | (simp; done) | (simp [*]; done)), H', ⟨Nat.le_refl _⟩, ⟨rr HO_11.out⟩, ⟨rr HO776.out⟩, ⟨bb HB.out⟩⟩
          case round =>
            clear H'
            try clear c1
            try clear c2
            try clear p2
            try clear q2
            try clear hx2
            try clear c6
            try clear c6b0
            try clear c6b1
            try clear p6
            try clear p7
            try clear q7
            try clear hx7
            try clear c9
            try clear c9b0
            try clear c11
            try clear c11b0
            try clear c12
            try clear c12b0
            try clear c12b1
            try clear c13
            try clear c13b0
            try clear c13b1
            try clear c16
            try clear c17
            try clear c17b0
            try clear c18
            try clear c18b0
            try clear c20
            try clear c21
            try clear c21b0
            try clear c22
            try clear c22b0
            try clear c23
            try clear c23b0
            try clear c24
            try clear c24b0
            try clear p25
            try clear q25
            try clear hx25
            try clear hf25
            try clear hx25_0
            try clear hx764_0
            try clear hx764_1
            try clear hx764_2
            try clear hx764_3
            try clear hx764_4
            try clear hx764_5
            try clear hx765_0
            try clear hx765_1
            try clear hx765_2
            try clear hx765_3
            try clear hx765_4
            try clear hx765_5
            try clear hx766_0
            try clear hx766_1
            try clear hx766_2
            try clear hx766_3
            try clear hx766_4
            try clear hx766_5
            try clear hx768_0
            try clear hx768_1
            try clear hx768_2
            try clear hx768_3
            try clear hx768_4
            try clear hx768_5
            try clear hx772_0
            try clear p2
            try clear p25
            try clear p6
            try clear p7
            try clear p764
            try clear p765
            try clear p766
            try clear p768
            try clear p772
            try clear q25
            try clear q7
            try clear q764
            try clear q765
            try clear q766
            try clear q768
            try clear q772
            obtain ⟨x15_2, x16_2, rfl, HA, HK2, HO_11, HO_15, HB⟩ := hrel
            cases gk with
            | zero => exact absurd HA.out (by simp [spec_RolesOf.l2])
            | succ k2 =>
              have H := HA.out
              clear HA
              simp only [spec_RolesOf.l2] at H
              by_cases c32 : x16_2 ≤ 5
              · rw [if_pos c32] at H
                have c32b0 : decide (x16_2 ≤ 5) = true := decide_eq_true c32
                clear c32
                by_cases c33 : 0 ≤ x16_2
                · rw [if_pos c33] at H
                  have c33b0 : decide (0 ≤ x16_2) = true := decide_eq_true c33
                  clear c33
                  by_cases c34 : x16_2 < (x11_1.length : Int)
                  · rw [if_pos c34] at H
                    have c34b0 : decide (x16_2 < (x11_1.length : Int)) = true := decide_eq_true c34
                    clear c34
                    obtain ⟨bq35, hbq35⟩ : ∃ b_ : Bool, b_ = (rdOf false x11_1 x16_2) := ⟨_, rfl⟩
                    replace H : (if bq35 = true then (if x15_2.length < 17592186044416 then (spec_RolesOf.l2 k2 x11_1 (x15_2 ++ [x16_2]) (wrap64 (x16_2 + 1))) else (none)) else (spec_RolesOf.l2 k2 x11_1 x15_2 (wrap64 (x16_2 + 1)))) = some r := by rw [← hbq35] at H; exact H
                    have Nbq35 := Aside0.mk hbq35
                    clear hbq35
                    by_cases c36 : bq35 = true
                    · subst c36
                      have H1 : (if x15_2.length < 17592186044416 then (spec_RolesOf.l2 k2 x11_1 (x15_2 ++ [x16_2]) (wrap64 (x16_2 + 1))) else (none)) = some r := by rw [if_pos rfl] at H; exact H
                      clear H
                      have H := H1
                      clear H1
                      by_cases c37 : x15_2.length < 17592186044416
                      · rw [if_pos c37] at H
                        have LMc37 := Aside0.mk c37
                        clear c37
                        obtain ⟨y778, hy778⟩ : ∃ y_ : List Int, y_ = (x15_2 ++ [x16_2]) := ⟨_, rfl⟩
                        replace H : (spec_RolesOf.l2 k2 x11_1 y778 (wrap64 (x16_2 + 1))) = some r := by first | (rw [hy778]; with_reducible exact H) | (have H2_ := (Option.bind_some _ _).symm.trans H; rw [hy778]; with_reducible exact H2_) | (have H2_ := (Option.bind_some _ _).symm.trans H; with_reducible exact H2_) | with_reducible exact H | (rw [hy778]; exact H) | exact H
                        have Ny778 := Aside0.mk hy778
                        clear hy778
                        have H' := Aside0.mk H
                        clear H
                        obtain ⟨Ao38, co38, eo38⟩ := Kd.R_slice HO_11.out
                        subst eo38
                        have p777 : 0 ≤ (x16_2 : Int) := of_decide_eq_true (by first | (with_reducible assumption) | assumption)
                        have q777 : x16_2 < (x11_1.length : Int) := of_decide_eq_true (by first | (with_reducible assumption) | assumption)
                        obtain ⟨ad777, e777, hx777_0⟩ := Kd.at_bool (Kd.R_reads' HO_11.out).2.2 x16_2 p777 q777
                        (try rw [← Nbq35.out] at hx777_0)
                        cases e777
                        replace p777 := eq_true p777
                        replace q777 := eq_true q777
                        go_wp2_with (first | ((with_reducible refine gate_builtin (b := .append) (xs := #[.tmp 77, .tmp 79]) rfl ?_); at_builtin; refine Kd.R_append (Kd.int .i64) (w0 := w) w.heap.size rfl (.tmp 77) (.tmp 79) 26 3 (.int .i64 0) 8 rfl Try.underlying26 info3 rfl (by decide) (by omega) u15 x15_2 x16_2 [.int .i64 x16_2] (fun _ => True) (fun _ => False) rfl rfl ?aP (fun _ hk => hk.elim) ?aF ?aO ?aB ?aS ?aL ?_; (case aP => exact rfl); (case aB => exact (bb HB.out)); (case aF => exact (fun _ _ => trivial)); (case aO => exact (rr HO_15.out)); (case aS => exact (below_size (bb HB.out))); (case aL => have := LMc37.out; omega); intro v779 w39 ho hb hg hat; rw [← Ny778.out] at ho; have n0_ := Aside0.mk (Kd.R_over' (rr HO_11.out) (Kd.R_typed (rr HO_15.out)) (by decide) hg); have n1_ := Aside0.mk (hb); have n2_ := Aside0.mk (ho); clear HO_11; clear HB; clear HO_15; have HO_11 := n0_; have HB := n1_; have HO780 := n2_; clear n0_ n1_ n2_; clear ho hb hg hat))
                        go_roundg k2
                        case measure => have := HK1.out; have := HK2.out; omega
                        case rel => exact ⟨(y778), (wrap64 (x16_2 + 1)), (by first | rfl | (simp; done) | (simp [*]; done)), H', ⟨by have := HK1.out; have := HK2.out; omega⟩, ⟨rr HO_11.out⟩, ⟨rr HO780.out⟩, ⟨bb HB.out⟩⟩
                      · rw [if_neg c37] at H
                        exact absurd H (by simp)
                    · replace c36 := Bool.eq_false_iff.mpr c36
                      subst c36
                      have H1 : (spec_RolesOf.l2 k2 x11_1 x15_2 (wrap64 (x16_2 + 1))) = some r := by rw [if_neg (show ¬ (false = true) by decide)] at H; exact H
                      clear H
                      have H := H1
                      clear H1
                      have H' := Aside0.mk H
                      clear H
                      obtain ⟨Ao40, co40, eo40⟩ := Kd.R_slice HO_11.out
                      subst eo40
                      have p777 : 0 ≤ (x16_2 : Int) := of_decide_eq_true (by first | (with_reducible assumption) | assumption)
                      have q777 : x16_2 < (x11_1.length : Int) := of_decide_eq_true (by first | (with_reducible assumption) | assumption)
                      obtain ⟨ad777, e777, hx777_0⟩ := Kd.at_bool (Kd.R_reads' HO_11.out).2.2 x16_2 p777 q777
                      (try rw [← Nbq35.out] at hx777_0)
                      cases e777
                      replace p777 := eq_true p777
                      replace q777 := eq_true q777
                      go_wp2
                      go_roundg k2
                      case measure => have := HK1.out; have := HK2.out; omega
                      case rel => exact ⟨(x15_2), (wrap64 (x16_2 + 1)), (by first | rfl | (simp; done) | (simp [*]; done)), H', ⟨by have := HK1.out; have := HK2.out; omega⟩, ⟨rr HO_11.out⟩, ⟨rr HO_15.out⟩, ⟨bb HB.out⟩⟩
                  · rw [if_neg c34] at H
                    exact absurd H (by simp)
                · rw [if_neg c33] at H
                  exact absurd H (by simp)
              · rw [if_neg c32] at H
                have c32b0 : decide (x16_2 ≤ 5) = false := decide_eq_false c32
                clear c32
                obtain rfl := Option.some.inj H
                go_wp2
                go_ret
                exact ⟨_, by first | rfl | (simp [errW_none, errW_some] <;> rfl) | (simp [*, errW_none, errW_some] <;> rfl), rr HO_15.out, bb HB.out⟩
  · rw [if_neg c6] at H
    exact absurd H (by simp)
def spec_HasRole.f (k : Nat) (l0 : List (S176)) (l1 : List (S119)) (a2 : Int) (a3 : Int) (a4 : Int) (a5 : Int) : Option (Bool) := (spec_RolesOf.f k l0 l1 a2 a4 a5).bind fun t781 => ((spec_l13Has.f k t781 a3).bind fun t784 => (some t784))
set_option maxHeartbeats 8000000 in
set_option maxRecDepth 100000 in
theorem spec_HasRole.calls (k : Nat) (A0 : Option Addr) (c0 : Nat) (l0 : List (S176)) (A1 : Option Addr) (c1 : Nat) (l1 : List (S119)) (a2 : Int) (a3 : Int) (a4 : Int) (a5 : Int) (r : Bool) (w : World) (hr0 : Kd.C k176 w A0 l0.length l0) (hc0 : l0.length ≤ c0) (hr1 : Kd.C k119 w A1 l1.length l1) (hc1 : l1.length ≤ c1) (h : spec_HasRole.f k l0 l1 a2 a3 a4 a5 = some r) :
    Calls Try.prog 146 #[.slice A0 l0.length c0, .slice A1 l1.length c1, .int .i64 a2, .int .i64 a3, .int .i64 a4, .int .i64 a5] w fun e w' => e = .returned (.bool r) ∧ Below w.heap.size w w' := by
  have HR0 := Aside0.mk hr0
  have HC0 := Aside0.mk hc0
  clear hr0 hc0
  have HR1 := Aside0.mk hr1
  have HC1 := Aside0.mk hc1
  clear hr1 hc1
  have HB := Aside0.mk (Below.refl w.heap.size w)
  have H : ((spec_RolesOf.f k l0 l1 a2 a4 a5).bind fun t781 => ((spec_l13Has.f k t781 a3).bind fun t784 => (some t784))) = some r := h
  clear h
  replace H := Option.bind_eq_some_iff.mp H
  obtain ⟨t781, A70, H⟩ := H
  replace H : ((spec_l13Has.f k t781 a3).bind fun t784 => (some t784)) = some r := H
  have A7 := Aside0.mk A70
  clear A70
  replace H := Option.bind_eq_some_iff.mp H
  obtain ⟨t784, A80, H⟩ := H
  replace H : (some t784) = some r := H
  have A8 := Aside0.mk A80
  clear A80
  obtain rfl := Option.some.inj H
  go_enter Try.func146, Try.ntmps146
  go_wp2_with (first | ((with_reducible refine gate_callee (f := 202) rfl ?_); refine gm (some 18) Try.func202 #[.slice A0 l0.length c0, .slice A1 l1.length c1, .int .i64 a2, .int .i64 a4, .int .i64 a5] ?_; (with_reducible refine (spec_RolesOf.calls k _ _ l0 _ _ l1 a2 a4 a5 t781 _ ?side1 ?side2 ?side3 ?side4 A7.out).mono ?_); (case side1 => repeat (first | exact HR0.out | (with_reducible refine Kd.C_alloc ?_ _) | (with_reducible refine Kd.C_drewN ?_ _) | (with_reducible refine Kd.C_drew ?_))); (case side2 => exact HC0.out); (case side3 => repeat (first | exact HR1.out | (with_reducible refine Kd.C_alloc ?_ _) | (with_reducible refine Kd.C_drewN ?_ _) | (with_reducible refine Kd.C_drew ?_))); (case side4 => exact HC1.out); rintro e w9 ⟨v782, rfl, ho0, hb⟩; refine ⟨_, rfl, ?_⟩; have n0_ := Aside0.mk (Kd.R_lower ho0 (below_size (bb HB.out))); have n1_ := Aside0.mk (below_step (bb HB.out) hb); clear HB; have HO783 := n0_; have HB := n1_; clear n0_ n1_; (try clear hb); (try clear hb2); (try clear hk); (try clear hi); (try clear ho0); obtain ⟨Ao10, co10, eo10⟩ := Kd.R_slice HO783.out; subst eo10) | ((with_reducible refine gate_callee (f := 201) rfl ?_); refine gm (some 20) Try.func201 #[.slice Ao10 t781.length co10, .int .i64 a3] ?_; (with_reducible refine (spec_l13Has.calls k _ _ t781 a3 t784 _ ?side1 ?side2 A8.out).mono ?_); (case side1 => repeat (first | exact (Kd.R_reads' HO783.out).2.2 | (with_reducible refine Kd.C_alloc ?_ _) | (with_reducible refine Kd.C_drewN ?_ _) | (with_reducible refine Kd.C_drew ?_))); (case side2 => exact (Kd.R_reads' HO783.out).2.1); rintro e w' ⟨rfl, ⟨nd, rfl⟩⟩; refine ⟨_, rfl, ?_⟩))
  go_ret
  exact ⟨by first | rfl | (simp [errW_none, errW_some] <;> rfl) | (simp [*, errW_none, errW_some] <;> rfl), bb HB.out⟩
end Go.Proofs.Ytbfochojhmggfaa.R
end
section
namespace Go.Proofs.Ytbfochojhmggfaa.R
open Go.RowKit Go.Proofs.YtbfochojhmggfaaW.PrintWords Go.Proofs.YtbfochojhmggfaaW.PrintLast Go.Proofs.YtbfochojhmggfaaW.PrintMore
attribute [local go_sem] max2_int min2_int max_two min_two max_three min_three max_four min_four
set_option linter.unusedVariables false
set_option linter.unusedSimpArgs false
def spec_FindFact.l0 : Nat → List (S119) → Int → Int → Int → Int → Int → Int → Option (Int)
  | 0, _, _, _, _, _, _, _ => none
  | k + 1, x0, x1, x2, x3, x4, x5, x13 => if x13 < (x0.length : Int) then (if 0 ≤ x13 then (if ((rd_T119 x0 x13).f0) = x1 then (if ((rd_T119 x0 x13).f1) = x2 then (if ((rd_T119 x0 x13).f2) = x3 then ((spec_HoldsAt.f ((rd_T119 x0 x13).f0) ((rd_T119 x0 x13).f1) ((rd_T119 x0 x13).f2) ((rd_T119 x0 x13).f3) ((rd_T119 x0 x13).f4) ((rd_T119 x0 x13).f5) x4 x5).bind fun t789 => (if t789 = true then (some x13) else (spec_FindFact.l0 k x0 x1 x2 x3 x4 x5 (wrap64 (x13 + 1))))) else (spec_FindFact.l0 k x0 x1 x2 x3 x4 x5 (wrap64 (x13 + 1)))) else (spec_FindFact.l0 k x0 x1 x2 x3 x4 x5 (wrap64 (x13 + 1)))) else (spec_FindFact.l0 k x0 x1 x2 x3 x4 x5 (wrap64 (x13 + 1)))) else (none)) else (some (-1))
def spec_FindFact.f (k : Nat) (l0 : List (S119)) (a1 : Int) (a2 : Int) (a3 : Int) (a4 : Int) (a5 : Int) : Option (Int) := spec_FindFact.l0 k l0 a1 a2 a3 a4 a5 0
set_option maxHeartbeats 8000000 in
set_option maxRecDepth 100000 in
theorem spec_FindFact.calls (k : Nat) (A0 : Option Addr) (c0 : Nat) (l0 : List (S119)) (a1 : Int) (a2 : Int) (a3 : Int) (a4 : Int) (a5 : Int) (r : Int) (w : World) (hr0 : Kd.C k119 w A0 l0.length l0) (hc0 : l0.length ≤ c0) (h : spec_FindFact.f k l0 a1 a2 a3 a4 a5 = some r) :
    Calls Try.prog 147 #[.slice A0 l0.length c0, .int .i64 a1, .int .i64 a2, .int .i64 a3, .int .i64 a4, .int .i64 a5] w fun e w' => e = .returned (.int .i64 r) ∧ Below w.heap.size w w' := by
  have hu119 := Try.underlying119
  have HR0 := Aside0.mk hr0
  have HC0 := Aside0.mk hc0
  clear hr0 hc0
  have HB := Aside0.mk (Below.refl w.heap.size w)
  have H : (spec_FindFact.l0 k l0 a1 a2 a3 a4 a5 0) = some r := h
  clear h
  have H' := Aside0.mk H
  clear H
  go_enter Try.func147, Try.ntmps147
  go_wp2
  go_loopg [13] k (fun kq v13 w' => ∃ (x13_1 : Int), v13 = .int .i64 x13_1 ∧ Aside0 (spec_FindFact.l0 kq l0 a1 a2 a3 a4 a5 x13_1 = some r) ∧ Aside0 (kq ≤ k) ∧ Aside0 (Below w.heap.size w w'))
  case atStart => exact ⟨(0), (by first | rfl | (simp; done) | (simp [*]; done)), H', ⟨Nat.le_refl _⟩, ⟨bb HB.out⟩⟩
  case round =>
    clear H'
    try clear c1
    try clear p2
    obtain ⟨x13_1, rfl, HA, HK1, HB⟩ := hrel
    cases gk with
    | zero => exact absurd HA.out (by simp [spec_FindFact.l0])
    | succ k1 =>
      have H := HA.out
      clear HA
      simp only [spec_FindFact.l0] at H
      by_cases c7 : x13_1 < (l0.length : Int)
      · rw [if_pos c7] at H
        have c7b0 : decide (x13_1 < (l0.length : Int)) = true := decide_eq_true c7
        clear c7
        by_cases c8 : 0 ≤ x13_1
        · rw [if_pos c8] at H
          have c8b0 : decide (0 ≤ x13_1) = true := decide_eq_true c8
          clear c8
          by_cases c9 : ((rd_T119 l0 x13_1).f0) = a1
          · rw [if_pos c9] at H
            have c9b0 : (((rd_T119 l0 x13_1).f0) == a1) = true := beq_iff_eq.mpr c9
            have c9b1 : (((rd_T119 l0 x13_1).f0) != a1) = false := bne_eq_false_iff_eq.mpr c9
            clear c9
            by_cases c10 : ((rd_T119 l0 x13_1).f1) = a2
            · rw [if_pos c10] at H
              have c10b0 : (((rd_T119 l0 x13_1).f1) == a2) = true := beq_iff_eq.mpr c10
              have c10b1 : (((rd_T119 l0 x13_1).f1) != a2) = false := bne_eq_false_iff_eq.mpr c10
              clear c10
              by_cases c11 : ((rd_T119 l0 x13_1).f2) = a3
              · rw [if_pos c11] at H
                have c11b0 : (((rd_T119 l0 x13_1).f2) == a3) = true := beq_iff_eq.mpr c11
                have c11b1 : (((rd_T119 l0 x13_1).f2) != a3) = false := bne_eq_false_iff_eq.mpr c11
                clear c11
                replace H := Option.bind_eq_some_iff.mp H
                obtain ⟨t789, A120, H⟩ := H
                replace H : (if t789 = true then (some x13_1) else (spec_FindFact.l0 k1 l0 a1 a2 a3 a4 a5 (wrap64 (x13_1 + 1)))) = some r := H
                have A12 := Aside0.mk A120
                clear A120
                by_cases c13 : t789 = true
                · subst c13
                  have H1 : (some x13_1) = some r := by rw [if_pos rfl] at H; exact H
                  clear H
                  have H := H1
                  clear H1
                  obtain rfl := Option.some.inj H
                  have p785 : 0 ≤ (x13_1 : Int) := of_decide_eq_true (by first | (with_reducible assumption) | assumption)
                  have q785 : x13_1 < (l0.length : Int) := of_decide_eq_true (by first | (with_reducible assumption) | assumption)
                  obtain ⟨ad785, e785, hx785_0, hx785_1, hx785_2, hx785_3, hx785_4, hx785_5⟩ := at_T119 HR0.out x13_1 p785 q785
                  cases e785
                  replace hx785_0 := (HB.out.cell (World.block_lt_of_cell? w _ hx785_0)).trans hx785_0
                  replace hx785_1 := (HB.out.cell (World.block_lt_of_cell? w _ hx785_1)).trans hx785_1
                  replace hx785_2 := (HB.out.cell (World.block_lt_of_cell? w _ hx785_2)).trans hx785_2
                  replace hx785_3 := (HB.out.cell (World.block_lt_of_cell? w _ hx785_3)).trans hx785_3
                  replace hx785_4 := (HB.out.cell (World.block_lt_of_cell? w _ hx785_4)).trans hx785_4
                  replace hx785_5 := (HB.out.cell (World.block_lt_of_cell? w _ hx785_5)).trans hx785_5
                  replace p785 := eq_true p785
                  replace q785 := eq_true q785
                  have p786 : 0 ≤ (x13_1 : Int) := of_decide_eq_true (by first | (with_reducible assumption) | assumption)
                  have q786 : x13_1 < (l0.length : Int) := of_decide_eq_true (by first | (with_reducible assumption) | assumption)
                  obtain ⟨ad786, e786, hx786_0, hx786_1, hx786_2, hx786_3, hx786_4, hx786_5⟩ := at_T119 HR0.out x13_1 p786 q786
                  obtain rfl : ad785 = ad786 := (by injection e786)
                  replace hx786_0 := (HB.out.cell (World.block_lt_of_cell? w _ hx786_0)).trans hx786_0
                  replace hx786_1 := (HB.out.cell (World.block_lt_of_cell? w _ hx786_1)).trans hx786_1
                  replace hx786_2 := (HB.out.cell (World.block_lt_of_cell? w _ hx786_2)).trans hx786_2
                  replace hx786_3 := (HB.out.cell (World.block_lt_of_cell? w _ hx786_3)).trans hx786_3
                  replace hx786_4 := (HB.out.cell (World.block_lt_of_cell? w _ hx786_4)).trans hx786_4
                  replace hx786_5 := (HB.out.cell (World.block_lt_of_cell? w _ hx786_5)).trans hx786_5
                  replace p786 := eq_true p786
                  replace q786 := eq_true q786
                  have p787 : 0 ≤ (x13_1 : Int) := of_decide_eq_true (by first | (with_reducible assumption) | assumption)
                  have q787 : x13_1 < (l0.length : Int) := of_decide_eq_true (by first | (with_reducible assumption) | assumption)
                  obtain ⟨ad787, e787, hx787_0, hx787_1, hx787_2, hx787_3, hx787_4, hx787_5⟩ := at_T119 HR0.out x13_1 p787 q787
                  obtain rfl : ad785 = ad787 := (by injection e787)
                  replace hx787_0 := (HB.out.cell (World.block_lt_of_cell? w _ hx787_0)).trans hx787_0
                  replace hx787_1 := (HB.out.cell (World.block_lt_of_cell? w _ hx787_1)).trans hx787_1
                  replace hx787_2 := (HB.out.cell (World.block_lt_of_cell? w _ hx787_2)).trans hx787_2
                  replace hx787_3 := (HB.out.cell (World.block_lt_of_cell? w _ hx787_3)).trans hx787_3
                  replace hx787_4 := (HB.out.cell (World.block_lt_of_cell? w _ hx787_4)).trans hx787_4
                  replace hx787_5 := (HB.out.cell (World.block_lt_of_cell? w _ hx787_5)).trans hx787_5
                  replace p787 := eq_true p787
                  replace q787 := eq_true q787
                  have p788 : 0 ≤ (x13_1 : Int) := of_decide_eq_true (by first | (with_reducible assumption) | assumption)
                  have q788 : x13_1 < (l0.length : Int) := of_decide_eq_true (by first | (with_reducible assumption) | assumption)
                  obtain ⟨ad788, e788, hx788_0, hx788_1, hx788_2, hx788_3, hx788_4, hx788_5⟩ := at_T119 HR0.out x13_1 p788 q788
                  obtain rfl : ad785 = ad788 := (by injection e788)
                  replace hx788_0 := (HB.out.cell (World.block_lt_of_cell? w _ hx788_0)).trans hx788_0
                  replace hx788_1 := (HB.out.cell (World.block_lt_of_cell? w _ hx788_1)).trans hx788_1
                  replace hx788_2 := (HB.out.cell (World.block_lt_of_cell? w _ hx788_2)).trans hx788_2
                  replace hx788_3 := (HB.out.cell (World.block_lt_of_cell? w _ hx788_3)).trans hx788_3
                  replace hx788_4 := (HB.out.cell (World.block_lt_of_cell? w _ hx788_4)).trans hx788_4
                  replace hx788_5 := (HB.out.cell (World.block_lt_of_cell? w _ hx788_5)).trans hx788_5
                  replace p788 := eq_true p788
                  replace q788 := eq_true q788
                  go_wp2_with (first | (go_at_call 203; (with_reducible refine (spec_HoldsAt.calls ((rd_T119 l0 x13_1).f0) ((rd_T119 l0 x13_1).f1) ((rd_T119 l0 x13_1).f2) ((rd_T119 l0 x13_1).f3) ((rd_T119 l0 x13_1).f4) ((rd_T119 l0 x13_1).f5) a4 a5 true _ A12.out).mono ?_); rintro e w14 ⟨rfl, hb⟩; have n0_ := Aside0.mk (below_step (bb HB.out) hb); clear HB; have HB := n0_; clear n0_; (try clear hb); (try clear hb2); (try clear hk); (try clear hi)))
                  go_ret
                  exact ⟨by first | rfl | (simp [errW_none, errW_some] <;> rfl) | (simp [*, errW_none, errW_some] <;> rfl), bb HB.out⟩
                · replace c13 := Bool.eq_false_iff.mpr c13
                  subst c13
                  have H1 : (spec_FindFact.l0 k1 l0 a1 a2 a3 a4 a5 (wrap64 (x13_1 + 1))) = some r := by rw [if_neg (show ¬ (false = true) by decide)] at H; exact H
                  clear H
                  have H := H1
                  clear H1
                  have H' := Aside0.mk H
                  clear H
                  have p785 : 0 ≤ (x13_1 : Int) := of_decide_eq_true (by first | (with_reducible assumption) | assumption)
                  have q785 : x13_1 < (l0.length : Int) := of_decide_eq_true (by first | (with_reducible assumption) | assumption)
                  obtain ⟨ad785, e785, hx785_0, hx785_1, hx785_2, hx785_3, hx785_4, hx785_5⟩ := at_T119 HR0.out x13_1 p785 q785
                  cases e785
                  replace hx785_0 := (HB.out.cell (World.block_lt_of_cell? w _ hx785_0)).trans hx785_0
                  replace hx785_1 := (HB.out.cell (World.block_lt_of_cell? w _ hx785_1)).trans hx785_1
                  replace hx785_2 := (HB.out.cell (World.block_lt_of_cell? w _ hx785_2)).trans hx785_2
                  replace hx785_3 := (HB.out.cell (World.block_lt_of_cell? w _ hx785_3)).trans hx785_3
                  replace hx785_4 := (HB.out.cell (World.block_lt_of_cell? w _ hx785_4)).trans hx785_4
                  replace hx785_5 := (HB.out.cell (World.block_lt_of_cell? w _ hx785_5)).trans hx785_5
                  replace p785 := eq_true p785
                  replace q785 := eq_true q785
                  have p786 : 0 ≤ (x13_1 : Int) := of_decide_eq_true (by first | (with_reducible assumption) | assumption)
                  have q786 : x13_1 < (l0.length : Int) := of_decide_eq_true (by first | (with_reducible assumption) | assumption)
                  obtain ⟨ad786, e786, hx786_0, hx786_1, hx786_2, hx786_3, hx786_4, hx786_5⟩ := at_T119 HR0.out x13_1 p786 q786
                  obtain rfl : ad785 = ad786 := (by injection e786)
                  replace hx786_0 := (HB.out.cell (World.block_lt_of_cell? w _ hx786_0)).trans hx786_0
                  replace hx786_1 := (HB.out.cell (World.block_lt_of_cell? w _ hx786_1)).trans hx786_1
                  replace hx786_2 := (HB.out.cell (World.block_lt_of_cell? w _ hx786_2)).trans hx786_2
                  replace hx786_3 := (HB.out.cell (World.block_lt_of_cell? w _ hx786_3)).trans hx786_3
                  replace hx786_4 := (HB.out.cell (World.block_lt_of_cell? w _ hx786_4)).trans hx786_4
                  replace hx786_5 := (HB.out.cell (World.block_lt_of_cell? w _ hx786_5)).trans hx786_5
                  replace p786 := eq_true p786
                  replace q786 := eq_true q786
                  have p787 : 0 ≤ (x13_1 : Int) := of_decide_eq_true (by first | (with_reducible assumption) | assumption)
                  have q787 : x13_1 < (l0.length : Int) := of_decide_eq_true (by first | (with_reducible assumption) | assumption)
                  obtain ⟨ad787, e787, hx787_0, hx787_1, hx787_2, hx787_3, hx787_4, hx787_5⟩ := at_T119 HR0.out x13_1 p787 q787
                  obtain rfl : ad785 = ad787 := (by injection e787)
                  replace hx787_0 := (HB.out.cell (World.block_lt_of_cell? w _ hx787_0)).trans hx787_0
                  replace hx787_1 := (HB.out.cell (World.block_lt_of_cell? w _ hx787_1)).trans hx787_1
                  replace hx787_2 := (HB.out.cell (World.block_lt_of_cell? w _ hx787_2)).trans hx787_2
                  replace hx787_3 := (HB.out.cell (World.block_lt_of_cell? w _ hx787_3)).trans hx787_3
                  replace hx787_4 := (HB.out.cell (World.block_lt_of_cell? w _ hx787_4)).trans hx787_4
                  replace hx787_5 := (HB.out.cell (World.block_lt_of_cell? w _ hx787_5)).trans hx787_5
                  replace p787 := eq_true p787
                  replace q787 := eq_true q787
                  have p788 : 0 ≤ (x13_1 : Int) := of_decide_eq_true (by first | (with_reducible assumption) | assumption)
                  have q788 : x13_1 < (l0.length : Int) := of_decide_eq_true (by first | (with_reducible assumption) | assumption)
                  obtain ⟨ad788, e788, hx788_0, hx788_1, hx788_2, hx788_3, hx788_4, hx788_5⟩ := at_T119 HR0.out x13_1 p788 q788
                  obtain rfl : ad785 = ad788 := (by injection e788)
                  replace hx788_0 := (HB.out.cell (World.block_lt_of_cell? w _ hx788_0)).trans hx788_0
                  replace hx788_1 := (HB.out.cell (World.block_lt_of_cell? w _ hx788_1)).trans hx788_1
                  replace hx788_2 := (HB.out.cell (World.block_lt_of_cell? w _ hx788_2)).trans hx788_2
                  replace hx788_3 := (HB.out.cell (World.block_lt_of_cell? w _ hx788_3)).trans hx788_3
                  replace hx788_4 := (HB.out.cell (World.block_lt_of_cell? w _ hx788_4)).trans hx788_4
                  replace hx788_5 := (HB.out.cell (World.block_lt_of_cell? w _ hx788_5)).trans hx788_5
                  replace p788 := eq_true p788
                  replace q788 := eq_true q788
                  go_wp2_with (first | (go_at_call 203; (with_reducible refine (spec_HoldsAt.calls ((rd_T119 l0 x13_1).f0) ((rd_T119 l0 x13_1).f1) ((rd_T119 l0 x13_1).f2) ((rd_T119 l0 x13_1).f3) ((rd_T119 l0 x13_1).f4) ((rd_T119 l0 x13_1).f5) a4 a5 false _ A12.out).mono ?_); rintro e w15 ⟨rfl, hb⟩; have n0_ := Aside0.mk (below_step (bb HB.out) hb); clear HB; have HB := n0_; clear n0_; (try clear hb); (try clear hb2); (try clear hk); (try clear hi)))
                  go_roundg k1
                  case measure => have := HK1.out; omega
                  case rel => exact ⟨(wrap64 (x13_1 + 1)), (by first | rfl | (simp; done) | (simp [*]; done)), H', ⟨by have := HK1.out; omega⟩, ⟨bb HB.out⟩⟩
              · rw [if_neg c11] at H
                have c11b0 : (((rd_T119 l0 x13_1).f2) == a3) = false := beq_eq_false_iff_ne.mpr c11
                have c11b1 : (((rd_T119 l0 x13_1).f2) != a3) = true := bne_iff_ne.mpr c11
                have H' := Aside0.mk H
                clear H
                have p785 : 0 ≤ (x13_1 : Int) := of_decide_eq_true (by first | (with_reducible assumption) | assumption)
                have q785 : x13_1 < (l0.length : Int) := of_decide_eq_true (by first | (with_reducible assumption) | assumption)
                obtain ⟨ad785, e785, hx785_0, hx785_1, hx785_2, hx785_3, hx785_4, hx785_5⟩ := at_T119 HR0.out x13_1 p785 q785
                cases e785
                replace hx785_0 := (HB.out.cell (World.block_lt_of_cell? w _ hx785_0)).trans hx785_0
                replace hx785_1 := (HB.out.cell (World.block_lt_of_cell? w _ hx785_1)).trans hx785_1
                replace hx785_2 := (HB.out.cell (World.block_lt_of_cell? w _ hx785_2)).trans hx785_2
                replace hx785_3 := (HB.out.cell (World.block_lt_of_cell? w _ hx785_3)).trans hx785_3
                replace hx785_4 := (HB.out.cell (World.block_lt_of_cell? w _ hx785_4)).trans hx785_4
                replace hx785_5 := (HB.out.cell (World.block_lt_of_cell? w _ hx785_5)).trans hx785_5
                replace p785 := eq_true p785
                replace q785 := eq_true q785
                have p786 : 0 ≤ (x13_1 : Int) := of_decide_eq_true (by first | (with_reducible assumption) | assumption)
                have q786 : x13_1 < (l0.length : Int) := of_decide_eq_true (by first | (with_reducible assumption) | assumption)
                obtain ⟨ad786, e786, hx786_0, hx786_1, hx786_2, hx786_3, hx786_4, hx786_5⟩ := at_T119 HR0.out x13_1 p786 q786
                obtain rfl : ad785 = ad786 := (by injection e786)
                replace hx786_0 := (HB.out.cell (World.block_lt_of_cell? w _ hx786_0)).trans hx786_0
                replace hx786_1 := (HB.out.cell (World.block_lt_of_cell? w _ hx786_1)).trans hx786_1
                replace hx786_2 := (HB.out.cell (World.block_lt_of_cell? w _ hx786_2)).trans hx786_2
                replace hx786_3 := (HB.out.cell (World.block_lt_of_cell? w _ hx786_3)).trans hx786_3
                replace hx786_4 := (HB.out.cell (World.block_lt_of_cell? w _ hx786_4)).trans hx786_4
                replace hx786_5 := (HB.out.cell (World.block_lt_of_cell? w _ hx786_5)).trans hx786_5
                replace p786 := eq_true p786
                replace q786 := eq_true q786
                have p787 : 0 ≤ (x13_1 : Int) := of_decide_eq_true (by first | (with_reducible assumption) | assumption)
                have q787 : x13_1 < (l0.length : Int) := of_decide_eq_true (by first | (with_reducible assumption) | assumption)
                obtain ⟨ad787, e787, hx787_0, hx787_1, hx787_2, hx787_3, hx787_4, hx787_5⟩ := at_T119 HR0.out x13_1 p787 q787
                obtain rfl : ad785 = ad787 := (by injection e787)
                replace hx787_0 := (HB.out.cell (World.block_lt_of_cell? w _ hx787_0)).trans hx787_0
                replace hx787_1 := (HB.out.cell (World.block_lt_of_cell? w _ hx787_1)).trans hx787_1
                replace hx787_2 := (HB.out.cell (World.block_lt_of_cell? w _ hx787_2)).trans hx787_2
                replace hx787_3 := (HB.out.cell (World.block_lt_of_cell? w _ hx787_3)).trans hx787_3
                replace hx787_4 := (HB.out.cell (World.block_lt_of_cell? w _ hx787_4)).trans hx787_4
                replace hx787_5 := (HB.out.cell (World.block_lt_of_cell? w _ hx787_5)).trans hx787_5
                replace p787 := eq_true p787
                replace q787 := eq_true q787
                go_wp2
                go_roundg k1
                case measure => have := HK1.out; omega
                case rel => exact ⟨(wrap64 (x13_1 + 1)), (by first | rfl | (simp; done) | (simp [*]; done)), H', ⟨by have := HK1.out; omega⟩, ⟨bb HB.out⟩⟩
            · rw [if_neg c10] at H
              have c10b0 : (((rd_T119 l0 x13_1).f1) == a2) = false := beq_eq_false_iff_ne.mpr c10
              have c10b1 : (((rd_T119 l0 x13_1).f1) != a2) = true := bne_iff_ne.mpr c10
              have H' := Aside0.mk H
              clear H
              have p785 : 0 ≤ (x13_1 : Int) := of_decide_eq_true (by first | (with_reducible assumption) | assumption)
              have q785 : x13_1 < (l0.length : Int) := of_decide_eq_true (by first | (with_reducible assumption) | assumption)
              obtain ⟨ad785, e785, hx785_0, hx785_1, hx785_2, hx785_3, hx785_4, hx785_5⟩ := at_T119 HR0.out x13_1 p785 q785
              cases e785
              replace hx785_0 := (HB.out.cell (World.block_lt_of_cell? w _ hx785_0)).trans hx785_0
              replace hx785_1 := (HB.out.cell (World.block_lt_of_cell? w _ hx785_1)).trans hx785_1
              replace hx785_2 := (HB.out.cell (World.block_lt_of_cell? w _ hx785_2)).trans hx785_2
              replace hx785_3 := (HB.out.cell (World.block_lt_of_cell? w _ hx785_3)).trans hx785_3
              replace hx785_4 := (HB.out.cell (World.block_lt_of_cell? w _ hx785_4)).trans hx785_4
              replace hx785_5 := (HB.out.cell (World.block_lt_of_cell? w _ hx785_5)).trans hx785_5
              replace p785 := eq_true p785
              replace q785 := eq_true q785
              have p786 : 0 ≤ (x13_1 : Int) := of_decide_eq_true (by first | (with_reducible assumption) | assumption)
              have q786 : x13_1 < (l0.length : Int) := of_decide_eq_true (by first | (with_reducible assumption) | assumption)
              obtain ⟨ad786, e786, hx786_0, hx786_1, hx786_2, hx786_3, hx786_4, hx786_5⟩ := at_T119 HR0.out x13_1 p786 q786
              obtain rfl : ad785 = ad786 := (by injection e786)
              replace hx786_0 := (HB.out.cell (World.block_lt_of_cell? w _ hx786_0)).trans hx786_0
              replace hx786_1 := (HB.out.cell (World.block_lt_of_cell? w _ hx786_1)).trans hx786_1
              replace hx786_2 := (HB.out.cell (World.block_lt_of_cell? w _ hx786_2)).trans hx786_2
              replace hx786_3 := (HB.out.cell (World.block_lt_of_cell? w _ hx786_3)).trans hx786_3
              replace hx786_4 := (HB.out.cell (World.block_lt_of_cell? w _ hx786_4)).trans hx786_4
              replace hx786_5 := (HB.out.cell (World.block_lt_of_cell? w _ hx786_5)).trans hx786_5
              replace p786 := eq_true p786
              replace q786 := eq_true q786
              go_wp2
              go_roundg k1
              case measure => have := HK1.out; omega
              case rel => exact ⟨(wrap64 (x13_1 + 1)), (by first | rfl | (simp; done) | (simp [*]; done)), H', ⟨by have := HK1.out; omega⟩, ⟨bb HB.out⟩⟩
          · rw [if_neg c9] at H
            have c9b0 : (((rd_T119 l0 x13_1).f0) == a1) = false := beq_eq_false_iff_ne.mpr c9
            have c9b1 : (((rd_T119 l0 x13_1).f0) != a1) = true := bne_iff_ne.mpr c9
            have H' := Aside0.mk H
            clear H
            have p785 : 0 ≤ (x13_1 : Int) := of_decide_eq_true (by first | (with_reducible assumption) | assumption)
            have q785 : x13_1 < (l0.length : Int) := of_decide_eq_true (by first | (with_reducible assumption) | assumption)
            obtain ⟨ad785, e785, hx785_0, hx785_1, hx785_2, hx785_3, hx785_4, hx785_5⟩ := at_T119 HR0.out x13_1 p785 q785
            cases e785
            replace hx785_0 := (HB.out.cell (World.block_lt_of_cell? w _ hx785_0)).trans hx785_0
            replace hx785_1 := (HB.out.cell (World.block_lt_of_cell? w _ hx785_1)).trans hx785_1
            replace hx785_2 := (HB.out.cell (World.block_lt_of_cell? w _ hx785_2)).trans hx785_2
            replace hx785_3 := (HB.out.cell (World.block_lt_of_cell? w _ hx785_3)).trans hx785_3
            replace hx785_4 := (HB.out.cell (World.block_lt_of_cell? w _ hx785_4)).trans hx785_4
            replace hx785_5 := (HB.out.cell (World.block_lt_of_cell? w _ hx785_5)).trans hx785_5
            replace p785 := eq_true p785
            replace q785 := eq_true q785
            go_wp2
            go_roundg k1
            case measure => have := HK1.out; omega
            case rel => exact ⟨(wrap64 (x13_1 + 1)), (by first | rfl | (simp; done) | (simp [*]; done)), H', ⟨by have := HK1.out; omega⟩, ⟨bb HB.out⟩⟩
        · rw [if_neg c8] at H
          exact absurd H (by simp)
      · rw [if_neg c7] at H
        have c7b0 : decide (x13_1 < (l0.length : Int)) = false := decide_eq_false c7
        clear c7
        obtain rfl := Option.some.inj H
        go_wp2
        go_ret
        exact ⟨by first | rfl | (simp [errW_none, errW_some] <;> rfl) | (simp [*, errW_none, errW_some] <;> rfl), bb HB.out⟩
def spec_Max.f (a0 : Int) (a1 : Int) : Option (Int) := if a1 > a0 then (some a1) else (some a0)
set_option maxHeartbeats 8000000 in
set_option maxRecDepth 100000 in
theorem spec_Max.calls (a0 : Int) (a1 : Int) (r : Int) (w : World) (h : spec_Max.f a0 a1 = some r) :
    Calls Try.prog 204 #[.int .i64 a0, .int .i64 a1] w fun e w' => e = .returned (.int .i64 r) ∧ Drawn0 w w' := by
  have H : (if a1 > a0 then (some a1) else (some a0)) = some r := h
  clear h
  by_cases c3 : a1 > a0
  · rw [if_pos c3] at H
    have c3b0 : decide (a0 < a1) = true := decide_eq_true c3
    clear c3
    obtain rfl := Option.some.inj H
    go_enter Try.func204, Try.ntmps204
    go_wp2
    go_ret
    exact ⟨by first | rfl | (simp; done) | (simp [*]; done), by repeat (first | exact Drawn0.refl _ | apply Drawn0.step)⟩
  · rw [if_neg c3] at H
    have c3b0 : decide (a0 < a1) = false := decide_eq_false c3
    clear c3
    obtain rfl := Option.some.inj H
    go_enter Try.func204, Try.ntmps204
    go_wp2
    go_ret
    exact ⟨by first | rfl | (simp; done) | (simp [*]; done), by repeat (first | exact Drawn0.refl _ | apply Drawn0.step)⟩
def spec_BestValue.l0 : Nat → List (S119) → Int → Int → Int → Int → Int → Int → Option (Int)
  | 0, _, _, _, _, _, _, _ => none
  | k + 1, x0, x1, x2, x3, x4, x11, x12 => if x12 < (x0.length : Int) then (if 0 ≤ x12 then (if ((rd_T119 x0 x12).f0) = x1 then (if ((rd_T119 x0 x12).f1) = x2 then ((spec_HoldsAt.f ((rd_T119 x0 x12).f0) ((rd_T119 x0 x12).f1) ((rd_T119 x0 x12).f2) ((rd_T119 x0 x12).f3) ((rd_T119 x0 x12).f4) ((rd_T119 x0 x12).f5) x3 x4).bind fun t793 => (if t793 = true then ((spec_Max.f x11 ((rd_T119 x0 x12).f2)).bind fun t795 => (spec_BestValue.l0 k x0 x1 x2 x3 x4 t795 (wrap64 (x12 + 1)))) else (spec_BestValue.l0 k x0 x1 x2 x3 x4 x11 (wrap64 (x12 + 1))))) else (spec_BestValue.l0 k x0 x1 x2 x3 x4 x11 (wrap64 (x12 + 1)))) else (spec_BestValue.l0 k x0 x1 x2 x3 x4 x11 (wrap64 (x12 + 1)))) else (none)) else (some x11)
def spec_BestValue.f (k : Nat) (l0 : List (S119)) (a1 : Int) (a2 : Int) (a3 : Int) (a4 : Int) : Option (Int) := spec_BestValue.l0 k l0 a1 a2 a3 a4 (-1) 0
set_option maxHeartbeats 8000000 in
set_option maxRecDepth 100000 in
theorem spec_BestValue.calls (k : Nat) (A0 : Option Addr) (c0 : Nat) (l0 : List (S119)) (a1 : Int) (a2 : Int) (a3 : Int) (a4 : Int) (r : Int) (w : World) (hr0 : Kd.C k119 w A0 l0.length l0) (hc0 : l0.length ≤ c0) (h : spec_BestValue.f k l0 a1 a2 a3 a4 = some r) :
    Calls Try.prog 148 #[.slice A0 l0.length c0, .int .i64 a1, .int .i64 a2, .int .i64 a3, .int .i64 a4] w fun e w' => e = .returned (.int .i64 r) ∧ Below w.heap.size w w' := by
  have hu119 := Try.underlying119
  have HR0 := Aside0.mk hr0
  have HC0 := Aside0.mk hc0
  clear hr0 hc0
  have HB := Aside0.mk (Below.refl w.heap.size w)
  have H : (spec_BestValue.l0 k l0 a1 a2 a3 a4 (-1) 0) = some r := h
  clear h
  have H' := Aside0.mk H
  clear H
  go_enter Try.func148, Try.ntmps148
  go_wp2
  go_loopg [11, 12] k (fun kq v11 v12 w' => ∃ (x11_1 : Int) (x12_1 : Int), v11 = .int .i64 x11_1 ∧ v12 = .int .i64 x12_1 ∧ Aside0 (spec_BestValue.l0 kq l0 a1 a2 a3 a4 x11_1 x12_1 = some r) ∧ Aside0 (kq ≤ k) ∧ Aside0 (Below w.heap.size w w'))
  case atStart => exact ⟨((-1)), (0), (by first | rfl | (simp; done) | (simp [*]; done)), (by first | rfl | (simp; done) | (simp [*]; done)), H', ⟨Nat.le_refl _⟩, ⟨bb HB.out⟩⟩
  case round =>
    clear H'
    try clear c1
    try clear p2
    obtain ⟨x11_1, x12_1, rfl, rfl, HA, HK1, HB⟩ := hrel
    cases gk with
    | zero => exact absurd HA.out (by simp [spec_BestValue.l0])
    | succ k1 =>
      have H := HA.out
      clear HA
      simp only [spec_BestValue.l0] at H
      by_cases c6 : x12_1 < (l0.length : Int)
      · rw [if_pos c6] at H
        have c6b0 : decide (x12_1 < (l0.length : Int)) = true := decide_eq_true c6
        clear c6
        by_cases c7 : 0 ≤ x12_1
        · rw [if_pos c7] at H
          have c7b0 : decide (0 ≤ x12_1) = true := decide_eq_true c7
          clear c7
          by_cases c8 : ((rd_T119 l0 x12_1).f0) = a1
          · rw [if_pos c8] at H
            have c8b0 : (((rd_T119 l0 x12_1).f0) == a1) = true := beq_iff_eq.mpr c8
            have c8b1 : (((rd_T119 l0 x12_1).f0) != a1) = false := bne_eq_false_iff_eq.mpr c8
            clear c8
            by_cases c9 : ((rd_T119 l0 x12_1).f1) = a2
            · rw [if_pos c9] at H
              have c9b0 : (((rd_T119 l0 x12_1).f1) == a2) = true := beq_iff_eq.mpr c9
              have c9b1 : (((rd_T119 l0 x12_1).f1) != a2) = false := bne_eq_false_iff_eq.mpr c9
              clear c9
              replace H := Option.bind_eq_some_iff.mp H
              obtain ⟨t793, A100, H⟩ := H
              replace H : (if t793 = true then ((spec_Max.f x11_1 ((rd_T119 l0 x12_1).f2)).bind fun t795 => (spec_BestValue.l0 k1 l0 a1 a2 a3 a4 t795 (wrap64 (x12_1 + 1)))) else (spec_BestValue.l0 k1 l0 a1 a2 a3 a4 x11_1 (wrap64 (x12_1 + 1)))) = some r := H
              have A10 := Aside0.mk A100
              clear A100
              by_cases c11 : t793 = true
              · subst c11
                have H1 : ((spec_Max.f x11_1 ((rd_T119 l0 x12_1).f2)).bind fun t795 => (spec_BestValue.l0 k1 l0 a1 a2 a3 a4 t795 (wrap64 (x12_1 + 1)))) = some r := by rw [if_pos rfl] at H; exact H
                clear H
                have H := H1
                clear H1
                replace H := Option.bind_eq_some_iff.mp H
                obtain ⟨t795, A120, H⟩ := H
                replace H : (spec_BestValue.l0 k1 l0 a1 a2 a3 a4 t795 (wrap64 (x12_1 + 1))) = some r := H
                have A12 := Aside0.mk A120
                clear A120
                have H' := Aside0.mk H
                clear H
                have p790 : 0 ≤ (x12_1 : Int) := of_decide_eq_true (by first | (with_reducible assumption) | assumption)
                have q790 : x12_1 < (l0.length : Int) := of_decide_eq_true (by first | (with_reducible assumption) | assumption)
                obtain ⟨ad790, e790, hx790_0, hx790_1, hx790_2, hx790_3, hx790_4, hx790_5⟩ := at_T119 HR0.out x12_1 p790 q790
                cases e790
                replace hx790_0 := (HB.out.cell (World.block_lt_of_cell? w _ hx790_0)).trans hx790_0
                replace hx790_1 := (HB.out.cell (World.block_lt_of_cell? w _ hx790_1)).trans hx790_1
                replace hx790_2 := (HB.out.cell (World.block_lt_of_cell? w _ hx790_2)).trans hx790_2
                replace hx790_3 := (HB.out.cell (World.block_lt_of_cell? w _ hx790_3)).trans hx790_3
                replace hx790_4 := (HB.out.cell (World.block_lt_of_cell? w _ hx790_4)).trans hx790_4
                replace hx790_5 := (HB.out.cell (World.block_lt_of_cell? w _ hx790_5)).trans hx790_5
                replace p790 := eq_true p790
                replace q790 := eq_true q790
                have p791 : 0 ≤ (x12_1 : Int) := of_decide_eq_true (by first | (with_reducible assumption) | assumption)
                have q791 : x12_1 < (l0.length : Int) := of_decide_eq_true (by first | (with_reducible assumption) | assumption)
                obtain ⟨ad791, e791, hx791_0, hx791_1, hx791_2, hx791_3, hx791_4, hx791_5⟩ := at_T119 HR0.out x12_1 p791 q791
                obtain rfl : ad790 = ad791 := (by injection e791)
                replace hx791_0 := (HB.out.cell (World.block_lt_of_cell? w _ hx791_0)).trans hx791_0
                replace hx791_1 := (HB.out.cell (World.block_lt_of_cell? w _ hx791_1)).trans hx791_1
                replace hx791_2 := (HB.out.cell (World.block_lt_of_cell? w _ hx791_2)).trans hx791_2
                replace hx791_3 := (HB.out.cell (World.block_lt_of_cell? w _ hx791_3)).trans hx791_3
                replace hx791_4 := (HB.out.cell (World.block_lt_of_cell? w _ hx791_4)).trans hx791_4
                replace hx791_5 := (HB.out.cell (World.block_lt_of_cell? w _ hx791_5)).trans hx791_5
                replace p791 := eq_true p791
                replace q791 := eq_true q791
                have p792 : 0 ≤ (x12_1 : Int) := of_decide_eq_true (by first | (with_reducible assumption) | assumption)
                have q792 : x12_1 < (l0.length : Int) := of_decide_eq_true (by first | (with_reducible assumption) | assumption)
                obtain ⟨ad792, e792, hx792_0, hx792_1, hx792_2, hx792_3, hx792_4, hx792_5⟩ := at_T119 HR0.out x12_1 p792 q792
                obtain rfl : ad790 = ad792 := (by injection e792)
                replace hx792_0 := (HB.out.cell (World.block_lt_of_cell? w _ hx792_0)).trans hx792_0
                replace hx792_1 := (HB.out.cell (World.block_lt_of_cell? w _ hx792_1)).trans hx792_1
                replace hx792_2 := (HB.out.cell (World.block_lt_of_cell? w _ hx792_2)).trans hx792_2
                replace hx792_3 := (HB.out.cell (World.block_lt_of_cell? w _ hx792_3)).trans hx792_3
                replace hx792_4 := (HB.out.cell (World.block_lt_of_cell? w _ hx792_4)).trans hx792_4
                replace hx792_5 := (HB.out.cell (World.block_lt_of_cell? w _ hx792_5)).trans hx792_5
                replace p792 := eq_true p792
                replace q792 := eq_true q792
                go_wp2_with (first | (go_at_call 203; (with_reducible refine (spec_HoldsAt.calls ((rd_T119 l0 x12_1).f0) ((rd_T119 l0 x12_1).f1) ((rd_T119 l0 x12_1).f2) ((rd_T119 l0 x12_1).f3) ((rd_T119 l0 x12_1).f4) ((rd_T119 l0 x12_1).f5) a3 a4 true _ A10.out).mono ?_); rintro e w13 ⟨rfl, hb⟩; have n0_ := Aside0.mk (below_step (bb HB.out) hb); clear HB; have HB := n0_; clear n0_; (try clear hb); (try clear hb2); (try clear hk); (try clear hi); have p794 : 0 ≤ (x12_1 : Int) := of_decide_eq_true (by first | (with_reducible assumption) | assumption); have q794 : x12_1 < (l0.length : Int) := of_decide_eq_true (by first | (with_reducible assumption) | assumption); obtain ⟨ad794, e794, hx794_0, hx794_1, hx794_2, hx794_3, hx794_4, hx794_5⟩ := at_T119 HR0.out x12_1 p794 q794; obtain rfl : ad790 = ad794 := (by injection e794); replace hx794_0 := (HB.out.cell (World.block_lt_of_cell? w _ hx794_0)).trans hx794_0; replace hx794_1 := (HB.out.cell (World.block_lt_of_cell? w _ hx794_1)).trans hx794_1; replace hx794_2 := (HB.out.cell (World.block_lt_of_cell? w _ hx794_2)).trans hx794_2; replace hx794_3 := (HB.out.cell (World.block_lt_of_cell? w _ hx794_3)).trans hx794_3; replace hx794_4 := (HB.out.cell (World.block_lt_of_cell? w _ hx794_4)).trans hx794_4; replace hx794_5 := (HB.out.cell (World.block_lt_of_cell? w _ hx794_5)).trans hx794_5; replace p794 := eq_true p794; replace q794 := eq_true q794) | ((with_reducible refine gate_callee (f := 204) rfl ?_); refine gm (some 50) Try.func204 #[.int .i64 x11_1, .int .i64 ((rd_T119 l0 x12_1).f2)] ?_; (with_reducible refine (spec_Max.calls x11_1 ((rd_T119 l0 x12_1).f2) t795 _ A12.out).mono ?_); rintro e w' ⟨rfl, ⟨nd, rfl⟩⟩; refine ⟨_, rfl, ?_⟩))
                go_roundg k1
                case measure => have := HK1.out; omega
                case rel => exact ⟨(t795), (wrap64 (x12_1 + 1)), (by first | rfl | (simp; done) | (simp [*]; done)), (by first | rfl | (simp; done) | (simp [*]; done)), H', ⟨by have := HK1.out; omega⟩, ⟨bb HB.out⟩⟩
              · replace c11 := Bool.eq_false_iff.mpr c11
                subst c11
                have H1 : (spec_BestValue.l0 k1 l0 a1 a2 a3 a4 x11_1 (wrap64 (x12_1 + 1))) = some r := by rw [if_neg (show ¬ (false = true) by decide)] at H; exact H
                clear H
                have H := H1
                clear H1
                have H' := Aside0.mk H
                clear H
                have p790 : 0 ≤ (x12_1 : Int) := of_decide_eq_true (by first | (with_reducible assumption) | assumption)
                have q790 : x12_1 < (l0.length : Int) := of_decide_eq_true (by first | (with_reducible assumption) | assumption)
                obtain ⟨ad790, e790, hx790_0, hx790_1, hx790_2, hx790_3, hx790_4, hx790_5⟩ := at_T119 HR0.out x12_1 p790 q790
                cases e790
                replace hx790_0 := (HB.out.cell (World.block_lt_of_cell? w _ hx790_0)).trans hx790_0
                replace hx790_1 := (HB.out.cell (World.block_lt_of_cell? w _ hx790_1)).trans hx790_1
                replace hx790_2 := (HB.out.cell (World.block_lt_of_cell? w _ hx790_2)).trans hx790_2
                replace hx790_3 := (HB.out.cell (World.block_lt_of_cell? w _ hx790_3)).trans hx790_3
                replace hx790_4 := (HB.out.cell (World.block_lt_of_cell? w _ hx790_4)).trans hx790_4
                replace hx790_5 := (HB.out.cell (World.block_lt_of_cell? w _ hx790_5)).trans hx790_5
                replace p790 := eq_true p790
                replace q790 := eq_true q790
                have p791 : 0 ≤ (x12_1 : Int) := of_decide_eq_true (by first | (with_reducible assumption) | assumption)
                have q791 : x12_1 < (l0.length : Int) := of_decide_eq_true (by first | (with_reducible assumption) | assumption)
                obtain ⟨ad791, e791, hx791_0, hx791_1, hx791_2, hx791_3, hx791_4, hx791_5⟩ := at_T119 HR0.out x12_1 p791 q791
                obtain rfl : ad790 = ad791 := (by injection e791)
                replace hx791_0 := (HB.out.cell (World.block_lt_of_cell? w _ hx791_0)).trans hx791_0
                replace hx791_1 := (HB.out.cell (World.block_lt_of_cell? w _ hx791_1)).trans hx791_1
                replace hx791_2 := (HB.out.cell (World.block_lt_of_cell? w _ hx791_2)).trans hx791_2
                replace hx791_3 := (HB.out.cell (World.block_lt_of_cell? w _ hx791_3)).trans hx791_3
                replace hx791_4 := (HB.out.cell (World.block_lt_of_cell? w _ hx791_4)).trans hx791_4
                replace hx791_5 := (HB.out.cell (World.block_lt_of_cell? w _ hx791_5)).trans hx791_5
                replace p791 := eq_true p791
                replace q791 := eq_true q791
                have p792 : 0 ≤ (x12_1 : Int) := of_decide_eq_true (by first | (with_reducible assumption) | assumption)
                have q792 : x12_1 < (l0.length : Int) := of_decide_eq_true (by first | (with_reducible assumption) | assumption)
                obtain ⟨ad792, e792, hx792_0, hx792_1, hx792_2, hx792_3, hx792_4, hx792_5⟩ := at_T119 HR0.out x12_1 p792 q792
                obtain rfl : ad790 = ad792 := (by injection e792)
                replace hx792_0 := (HB.out.cell (World.block_lt_of_cell? w _ hx792_0)).trans hx792_0
                replace hx792_1 := (HB.out.cell (World.block_lt_of_cell? w _ hx792_1)).trans hx792_1
                replace hx792_2 := (HB.out.cell (World.block_lt_of_cell? w _ hx792_2)).trans hx792_2
                replace hx792_3 := (HB.out.cell (World.block_lt_of_cell? w _ hx792_3)).trans hx792_3
                replace hx792_4 := (HB.out.cell (World.block_lt_of_cell? w _ hx792_4)).trans hx792_4
                replace hx792_5 := (HB.out.cell (World.block_lt_of_cell? w _ hx792_5)).trans hx792_5
                replace p792 := eq_true p792
                replace q792 := eq_true q792
                go_wp2_with (first | (go_at_call 203; (with_reducible refine (spec_HoldsAt.calls ((rd_T119 l0 x12_1).f0) ((rd_T119 l0 x12_1).f1) ((rd_T119 l0 x12_1).f2) ((rd_T119 l0 x12_1).f3) ((rd_T119 l0 x12_1).f4) ((rd_T119 l0 x12_1).f5) a3 a4 false _ A10.out).mono ?_); rintro e w14 ⟨rfl, hb⟩; have n0_ := Aside0.mk (below_step (bb HB.out) hb); clear HB; have HB := n0_; clear n0_; (try clear hb); (try clear hb2); (try clear hk); (try clear hi)))
                go_roundg k1
                case measure => have := HK1.out; omega
                case rel => exact ⟨(x11_1), (wrap64 (x12_1 + 1)), (by first | rfl | (simp; done) | (simp [*]; done)), (by first | rfl | (simp; done) | (simp [*]; done)), H', ⟨by have := HK1.out; omega⟩, ⟨bb HB.out⟩⟩
            · rw [if_neg c9] at H
              have c9b0 : (((rd_T119 l0 x12_1).f1) == a2) = false := beq_eq_false_iff_ne.mpr c9
              have c9b1 : (((rd_T119 l0 x12_1).f1) != a2) = true := bne_iff_ne.mpr c9
              have H' := Aside0.mk H
              clear H
              have p790 : 0 ≤ (x12_1 : Int) := of_decide_eq_true (by first | (with_reducible assumption) | assumption)
              have q790 : x12_1 < (l0.length : Int) := of_decide_eq_true (by first | (with_reducible assumption) | assumption)
              obtain ⟨ad790, e790, hx790_0, hx790_1, hx790_2, hx790_3, hx790_4, hx790_5⟩ := at_T119 HR0.out x12_1 p790 q790
              cases e790
              replace hx790_0 := (HB.out.cell (World.block_lt_of_cell? w _ hx790_0)).trans hx790_0
              replace hx790_1 := (HB.out.cell (World.block_lt_of_cell? w _ hx790_1)).trans hx790_1
              replace hx790_2 := (HB.out.cell (World.block_lt_of_cell? w _ hx790_2)).trans hx790_2
              replace hx790_3 := (HB.out.cell (World.block_lt_of_cell? w _ hx790_3)).trans hx790_3
              replace hx790_4 := (HB.out.cell (World.block_lt_of_cell? w _ hx790_4)).trans hx790_4
              replace hx790_5 := (HB.out.cell (World.block_lt_of_cell? w _ hx790_5)).trans hx790_5
              replace p790 := eq_true p790
              replace q790 := eq_true q790
              have p791 : 0 ≤ (x12_1 : Int) := of_decide_eq_true (by first | (with_reducible assumption) | assumption)
              have q791 : x12_1 < (l0.length : Int) := of_decide_eq_true (by first | (with_reducible assumption) | assumption)
              obtain ⟨ad791, e791, hx791_0, hx791_1, hx791_2, hx791_3, hx791_4, hx791_5⟩ := at_T119 HR0.out x12_1 p791 q791
              obtain rfl : ad790 = ad791 := (by injection e791)
              replace hx791_0 := (HB.out.cell (World.block_lt_of_cell? w _ hx791_0)).trans hx791_0
              replace hx791_1 := (HB.out.cell (World.block_lt_of_cell? w _ hx791_1)).trans hx791_1
              replace hx791_2 := (HB.out.cell (World.block_lt_of_cell? w _ hx791_2)).trans hx791_2
              replace hx791_3 := (HB.out.cell (World.block_lt_of_cell? w _ hx791_3)).trans hx791_3
              replace hx791_4 := (HB.out.cell (World.block_lt_of_cell? w _ hx791_4)).trans hx791_4
              replace hx791_5 := (HB.out.cell (World.block_lt_of_cell? w _ hx791_5)).trans hx791_5
              replace p791 := eq_true p791
              replace q791 := eq_true q791
              go_wp2
              go_roundg k1
              case measure => have := HK1.out; omega
              case rel => exact ⟨(x11_1), (wrap64 (x12_1 + 1)), (by first | rfl | (simp; done) | (simp [*]; done)), (by first | rfl | (simp; done) | (simp [*]; done)), H', ⟨by have := HK1.out; omega⟩, ⟨bb HB.out⟩⟩
          · rw [if_neg c8] at H
            have c8b0 : (((rd_T119 l0 x12_1).f0) == a1) = false := beq_eq_false_iff_ne.mpr c8
            have c8b1 : (((rd_T119 l0 x12_1).f0) != a1) = true := bne_iff_ne.mpr c8
            have H' := Aside0.mk H
            clear H
            have p790 : 0 ≤ (x12_1 : Int) := of_decide_eq_true (by first | (with_reducible assumption) | assumption)
            have q790 : x12_1 < (l0.length : Int) := of_decide_eq_true (by first | (with_reducible assumption) | assumption)
            obtain ⟨ad790, e790, hx790_0, hx790_1, hx790_2, hx790_3, hx790_4, hx790_5⟩ := at_T119 HR0.out x12_1 p790 q790
            cases e790
            replace hx790_0 := (HB.out.cell (World.block_lt_of_cell? w _ hx790_0)).trans hx790_0
            replace hx790_1 := (HB.out.cell (World.block_lt_of_cell? w _ hx790_1)).trans hx790_1
            replace hx790_2 := (HB.out.cell (World.block_lt_of_cell? w _ hx790_2)).trans hx790_2
            replace hx790_3 := (HB.out.cell (World.block_lt_of_cell? w _ hx790_3)).trans hx790_3
            replace hx790_4 := (HB.out.cell (World.block_lt_of_cell? w _ hx790_4)).trans hx790_4
            replace hx790_5 := (HB.out.cell (World.block_lt_of_cell? w _ hx790_5)).trans hx790_5
            replace p790 := eq_true p790
            replace q790 := eq_true q790
            go_wp2
            go_roundg k1
            case measure => have := HK1.out; omega
            case rel => exact ⟨(x11_1), (wrap64 (x12_1 + 1)), (by first | rfl | (simp; done) | (simp [*]; done)), (by first | rfl | (simp; done) | (simp [*]; done)), H', ⟨by have := HK1.out; omega⟩, ⟨bb HB.out⟩⟩
        · rw [if_neg c7] at H
          exact absurd H (by simp)
      · rw [if_neg c6] at H
        have c6b0 : decide (x12_1 < (l0.length : Int)) = false := decide_eq_false c6
        clear c6
        obtain rfl := Option.some.inj H
        go_wp2
        go_ret
        exact ⟨by first | rfl | (simp [errW_none, errW_some] <;> rfl) | (simp [*, errW_none, errW_some] <;> rfl), bb HB.out⟩
end Go.Proofs.Ytbfochojhmggfaa.R
end
