import Derived.Test.YtbfochojhmggfaaPkLeafHolds5
import Derived.ArgAppend
import Derived.Below
import Derived.BigQuiet
import Derived.Deep.AppendLies
import Derived.Deep.CutBlock
import Derived.Deep.DeepCutAuto
import Derived.Deep.Draws
import Derived.Deep.LoopGhost
import Derived.Deep.OwnRows
import Derived.Deep.QuietTactic
import Derived.Deep.RegionHeld3
import Derived.Deep.RegionWith
import Derived.Ground.Names2Prog
import Derived.IntWalk
import Derived.KernelRfl
import Derived.Laws.BitsLemmas
import Derived.Laws.BytesArg
import Derived.Laws.IdiomCopy
import Derived.Laws.MakeOwn
import Derived.Laws.OwnMore
import Derived.Laws.Rows
import Derived.Laws.Slices
import Derived.Laws.StructEq
import Derived.Lib.AppendStr
import Derived.Lib.ConvBytes
import Derived.Lib.OwnBridge
import Derived.Maps.AppendAt
import Derived.OrdersHeld
import Derived.OwnWalk
import Derived.RowKit
import Derived.RowKit3
import Derived.Shelf.Abstract
import Derived.Shelf.Slices.Cells
import Derived.Shelf.Slices.CompactI
import Derived.Shelf.Slices.In.SortNone
import Derived.Shelf.Slices.SearchI
import Derived.Shelf.Slices.Turned
import Derived.Shelf.Small.Bits
import Derived.Shelf.Small.Wraps
import Derived.Shelf.Sort.Plain
import Derived.Shelf.Strconv.Itoa0
import Derived.Sort.OwnSortedInts
import Derived.Tactics
import Derived.Test.YtbfochojhmggfaaProg
import Derived.WalkKit
import Derived.WideLaws
section
namespace Go.Proofs.Ytbfochojhmggfaa.Funcs
open Go.RowKit Go.Proofs.YtbfochojhmggfaaW.PrintWords Go.Proofs.Ytbfochojhmggfaa.R Go.Lib
set_option linter.unusedVariables false
def PredK {α : Type} (P : Program) (g : Nat) (lb : Array Value) (d : Kd α) (xs : List α) (p : α → Bool) (w : World) : Prop :=
  ∀ (W : World) (x : α) (cs : List Value), x ∈ xs → Below w.heap.size w W → d.K W x cs → Calls P g (#[.agg cs.toArray] ++ lb) W fun e w' => e = .returned (.bool (p x)) ∧ Below w.heap.size w w'
def idx {α : Type} (p : α → Bool) (l : List α) : Int := if l.findIdx p < l.length then (l.findIdx p : Int) else -1
theorem idx_hit {α : Type} (p : α → Bool) (l : List α) {k : Nat} (hk : k < l.length) (h : p l[k] = true) (hn : ∀ j (hj : j < k), p (l[j]'(by omega)) = false) : idx p l = (k : Int) := by
  have : l.findIdx p = k := (List.findIdx_eq hk).2 ⟨h, hn⟩
  unfold idx
  rw [this, if_pos hk]
theorem idx_miss {α : Type} (p : α → Bool) (l : List α) (hn : ∀ j (hj : j < l.length), p l[j] = false) : idx p l = -1 := by
  have : l.findIdx p = l.length := List.findIdx_eq_length.2 (fun x hx => by obtain ⟨j, hj, rfl⟩ := List.getElem_of_mem hx; exact hn j hj)
  unfold idx
  rw [this, if_neg (by omega)]
theorem idx_any {α : Type} (p : α → Bool) (l : List α) : decide (idx p l ≥ 0) = l.any p := by
  unfold idx
  by_cases h : l.findIdx p < l.length
  · rw [if_pos h]
    have : l.any p = true := by
      rw [List.any_eq_true]
      exact ⟨l[l.findIdx p], List.getElem_mem _, List.findIdx_getElem (w := h)⟩
    rw [this]
    simp
  · rw [if_neg h]
    have : l.any p = false := by
      rw [List.any_eq_false]
      have h2 : l.findIdx p = l.length := Nat.le_antisymm List.findIdx_le_length (by omega)
      intro x hx
      rw [List.findIdx_eq_length.1 h2 x hx]
      simp
    rw [this]
    simp
set_option maxHeartbeats 2000000 in
theorem indexFunc_Fact (g : Nat) (lb : Array Value) (eg : ∀ args w, (callFunc g args).run Try.prog w = .ok (.enter g args) w) (p : S119 → Bool) (A : Option Addr) (c : Nat) (l : List S119) (w : World)
    (hr : Kd.C k119 w A l.length l) (hp : PredK Try.prog g lb k119 l p w) :
    Calls Try.prog 207 #[.slice A l.length c, .func (.func g) #[] lb] w fun e w' => e = .returned (.int .i64 (idx p l)) ∧ Below w.heap.size w w' := by
  have hu := Try.underlying119
  have hbig : l.length ≤ 9223372036854775807 := hr.2.1
  have HR := Aside0.mk hr
  have HP := Aside0.mk hp
  clear hr hp
  go_enter Try.func207, Try.ntmps207
  go_wp2
  go_loopg [5, 8] l.length (fun gg _ s8 wr => ∃ kk : Nat, kk ≤ l.length ∧ l.length - kk ≤ gg ∧ s8 = .int .i64 kk ∧ Aside0 (Below w.heap.size w wr) ∧ Aside0 (∀ j (hj : j < kk) (hl : j < l.length), p l[j] = false))
  case atStart => exact ⟨0, Nat.zero_le _, by omega, rfl, ⟨Below.refl _ w⟩, ⟨fun j hj => absurd hj (Nat.not_lt_zero _)⟩⟩
  case round =>
    obtain ⟨kk, hkk, hg, rfl, BW, A0⟩ := hrel
    by_cases hlt : kk < l.length
    · have hltz : (kk : Int) < (l.length : Int) := by omega
      obtain ⟨ad, e0, h0, h1, h2, h3, h4, h5⟩ := at_T119 (Kd.C_below HR.out BW.out) (kk : Int) (by omega) hltz
      subst e0
      have hcall := HP.out wr l[kk] _ (List.getElem_mem _) BW.out (k119_mk wr l[kk])
      have er : rd_T119 l (kk : Int) = l[kk] := by rw [rd_T119, Int.toNat_natCast, List.getD_eq_getElem?_getD, List.getElem?_eq_getElem hlt]; rfl
      rw [er] at h0 h1 h2 h3 h4 h5
      rw [Int.toNat_natCast] at h0 h1 h2 h3 h4 h5
      clear  er
      generalize hy : l[kk] = y at h0 h1 h2 h3 h4 h5 hcall
      have HY := Aside0.mk hy
      clear hy
      cases hq : p y with
      | true =>
        rw [hq] at hcall
        have HQ := Aside0.mk hq
        clear hq
        go_wp2_with (go_at_fn g; refine hcall.mono ?_; rintro e w' ⟨rfl, hb'⟩)
        go_ret
        refine ⟨?_, hb'⟩
        rw [idx_hit p l hlt (by rw [HY.out]; exact HQ.out) (fun j hj => A0.out j hj _)]
        rfl
      | false =>
        rw [hq] at hcall
        have HQ := Aside0.mk hq
        clear hq
        go_wp2_with (go_at_fn g; refine hcall.mono ?_; rintro e w' ⟨rfl, hb'⟩)
        go_roundg (l.length - (kk + 1))
        case measure => omega
        case rel =>
          refine ⟨kk + 1, by omega, by omega, by go_num, ⟨hb'⟩, ⟨fun j hj hl => ?_⟩⟩
          by_cases e : j = kk
          · subst e
            rw [HY.out]; exact HQ.out
          · exact A0.out j (by omega) hl
    · have hltz : ¬ (kk : Int) < (l.length : Int) := by omega
      have hkl : kk = l.length := by omega
      subst hkl
      go_wp2
      go_ret
      refine ⟨?_, BW.out⟩
      rw [idx_miss p l (fun j hj => A0.out j hj hj)]
      rfl
end Go.Proofs.Ytbfochojhmggfaa.Funcs
end
section
namespace Go.Proofs.Ytbfochojhmggfaa.R
open Go.RowKit Go.Proofs.YtbfochojhmggfaaW.PrintWords Go.Proofs.YtbfochojhmggfaaW.PrintLast Go.Proofs.YtbfochojhmggfaaW.PrintMore
attribute [local go_sem] max2_int min2_int max_two min_two max_three min_three max_four min_four
set_option linter.unusedVariables false
set_option linter.unusedSimpArgs false
theorem cell_past {W : World} {b : Nat} {v : Value} (o : Obj) (h : W.cell? ⟨b, 0, none⟩ = some v) : (W.alloc o).cell? ⟨b, 0, none⟩ = some v := by
  rw [World.cell?_alloc_past _ _ _ (World.block_lt_of_cell? W _ h)]; exact h
theorem cell_here {W : World} {b : Nat} {v : Value} {t : Nat} (h : b = W.heap.size) : (W.alloc (.cells #[v] t)).cell? ⟨b, 0, none⟩ = some v := by
  subst h
  exact (blk_cell (heap_alloc_new W _) 0).trans rfl
theorem inRange_f (x a b : Int) : impl_InRange.f x a b = some (Facts.inR x a b) := by
  unfold impl_InRange.f Facts.inR
  by_cases h : a ≤ x
  · rw [if_pos h]; simp [h]
  · rw [if_neg h]; simp [h]
theorem hasKind_f (n k : Int) : impl_HasKind.f n k = some (Facts.kindB n k) := by
  unfold impl_HasKind.f impl_KindOf.f impl_IsName.f Facts.kindB
  simp only [inRange_f, Option.bind_some]
  by_cases h : Facts.inR n 10 49 = true
  · have h2 := of_decide_eq_true h
    have h3 : Int.tdiv n 10 = n / 10 := Int.tdiv_eq_ediv_of_nonneg (by omega)
    have h4 : wrap64 (Int.tdiv n 10) = Int.tdiv n 10 := by rw [h3]; unfold wrap64; omega
    rw [if_pos h, if_pos h]
    simp only [Option.bind_some, h4, h2.1, h2.2, true_and]
    rfl
  · rw [if_neg h]
    unfold Facts.inR at h
    simp only [decide_eq_true_eq] at h
    simp only [Option.some.injEq]
    symm
    rw [decide_eq_false_iff_not]
    omega
theorem isClaim_f (k s v i a u : Int) : impl_isClaim.f k s v i a u = some (Facts.claimB k s v) := by
  unfold impl_isClaim.f Facts.claimB
  simp only [inRange_f, hasKind_f, Option.bind_some]
  repeat' split
  all_goals (first | rfl | simp_all)
theorem isFact_f (k s v i a u : Int) : impl_IsFact.f k s v i a u = some (Facts.factB k s v i a u) := by
  unfold impl_IsFact.f impl_IsTime.f Facts.factB
  simp only [inRange_f, isClaim_f, Option.bind_some]
  repeat' split
  all_goals (first | rfl | simp_all)
theorem holdsAt_f (k s v i a u now age : Int) : impl_HoldsAt.f k s v i a u now age = some (Facts.holdsB k s v i a u now age) := by
  unfold impl_HoldsAt.f impl_IsWithin.f impl_AgeOf.f impl_IsTime.f Facts.holdsB
  simp only [inRange_f, isFact_f, Option.bind_some]
  by_cases h : Facts.factB k s v i a u = true
  · have hf := h
    simp only [Facts.factB, Bool.and_eq_true] at hf
    obtain ⟨⟨⟨⟨_, _⟩, h1⟩, h2⟩, _⟩ := hf
    rw [if_pos h, if_pos h1, if_pos h2]
    by_cases h3 : Facts.inR now 0 10000 = true
    · have h1' := of_decide_eq_true h1
      have h3' := of_decide_eq_true h3
      rw [if_pos h3]
      simp only [h1, h, h3, Bool.true_and, if_true, Option.bind_some]
      by_cases h4 : a ≤ now ∧ now ≤ u
      · have h5 : Facts.inR now a u = true := decide_eq_true h4
        have h6 : wrap64 (now - a) = now - a := by unfold wrap64; omega
        rw [if_pos h5, if_neg (by omega : ¬ a > now)]
        simp [h4, h6]
      · have h5 : ¬ Facts.inR now a u = true := by rw [Facts.inR, decide_eq_true_eq]; exact h4
        rw [if_neg h5]
        simp [h4]
    · rw [if_neg h3]
      simp [h3]
  · rw [if_neg h]
    simp [h]
def impl_FindFact.f (l0 : List (S119)) (a1 : Int) (a2 : Int) (a3 : Int) (a4 : Int) (a5 : Int) : Option (Int) := some (Funcs.idx (fun x => x.f0 == a1 && x.f1 == a2 && x.f2 == a3 && Facts.holdsB x.f0 x.f1 x.f2 x.f3 x.f4 x.f5 a4 a5) l0)
set_option maxRecDepth 100000 in
set_option maxHeartbeats 4000000 in
theorem FindFact_fn (w : World) (b1 b2 b3 b4 b5 : Nat) (kind subject value now age : Int) (l : List S119)
    (h1 : w.cell? ⟨b1, 0, none⟩ = some (.int .i64 kind)) (h2 : w.cell? ⟨b2, 0, none⟩ = some (.int .i64 subject)) (h3 : w.cell? ⟨b3, 0, none⟩ = some (.int .i64 value)) (h4 : w.cell? ⟨b4, 0, none⟩ = some (.int .i64 now)) (h5 : w.cell? ⟨b5, 0, none⟩ = some (.int .i64 age)) :
    Funcs.PredK Try.prog 208 #[.pointer (some ⟨b1, 0, none⟩), .pointer (some ⟨b2, 0, none⟩), .pointer (some ⟨b3, 0, none⟩), .pointer (some ⟨b4, 0, none⟩), .pointer (some ⟨b5, 0, none⟩)] k119 l (fun x => x.f0 == kind && x.f1 == subject && x.f2 == value && Facts.holdsB x.f0 x.f1 x.f2 x.f3 x.f4 x.f5 now age) w := by
  intro W x cs hx hb hK
  obtain rfl := k119_open hK
  obtain ⟨k, s, v, i, a, u⟩ := x
  have hc := fun W' => impl_HoldsAt.calls k s v i a u now age _ W' (holdsAt_f k s v i a u now age)
  generalize hv : Facts.holdsB k s v i a u now age = z at hc
  have al : ∀ {b : Nat} {v : Value} (o : Obj), w.cell? ⟨b, 0, none⟩ = some v → (W.alloc o).cell? ⟨b, 0, none⟩ = some v := fun o h => by
    have h2 := (hb.cell (World.block_lt_of_cell? w _ h)).trans h
    rw [World.cell?_alloc_past _ _ _ (World.block_lt_of_cell? W _ h2)]; exact h2
  replace h1 := al (.cells #[.int .i64 k, .int .i64 s, .int .i64 v, .int .i64 i, .int .i64 a, .int .i64 u] 119) h1
  replace h2 := al (.cells #[.int .i64 k, .int .i64 s, .int .i64 v, .int .i64 i, .int .i64 a, .int .i64 u] 119) h2
  replace h3 := al (.cells #[.int .i64 k, .int .i64 s, .int .i64 v, .int .i64 i, .int .i64 a, .int .i64 u] 119) h3
  replace h4 := al (.cells #[.int .i64 k, .int .i64 s, .int .i64 v, .int .i64 i, .int .i64 a, .int .i64 u] 119) h4
  replace h5 := al (.cells #[.int .i64 k, .int .i64 s, .int .i64 v, .int .i64 i, .int .i64 a, .int .i64 u] 119) h5
  have hu := Try.underlying119
  have HB := Aside0.mk hb
  have HV := Aside0.mk hv
  clear hb hK hx hv al
  show Calls _ _ (#[Value.agg #[.int .i64 k, .int .i64 s, .int .i64 v, .int .i64 i, .int .i64 a, .int .i64 u], .pointer (some ⟨b1, 0, none⟩), .pointer (some ⟨b2, 0, none⟩), .pointer (some ⟨b3, 0, none⟩), .pointer (some ⟨b4, 0, none⟩), .pointer (some ⟨b5, 0, none⟩)]) _ _
  by_cases c1 : k = kind
  · subst c1
    have e1 : (k == k) = true := beq_self_eq_true k
    by_cases c2 : s = subject
    · subst c2
      have e2 : (s == s) = true := beq_self_eq_true s
      by_cases c3 : v = value
      · subst c3
        have e3 : (v == v) = true := beq_self_eq_true v
        go_enter Try.func208, Try.ntmps208
        go_wp2_with (go_at_call 209; refine (hc _).mono ?_; rintro e w' ⟨rfl, hb'⟩)
        go_ret
        exact ⟨by rw [e1, e2, e3, HV.out]; rfl, below_step (below_alloc HB.out _) hb'⟩
      · have e3 : (v == value) = false := beq_false_of_ne c3
        go_enter Try.func208, Try.ntmps208
        go_wp2
        go_ret
        exact ⟨by rw [e1, e2, e3]; rfl, below_alloc HB.out _⟩
    · have e2 : (s == subject) = false := beq_false_of_ne c2
      go_enter Try.func208, Try.ntmps208
      go_wp2
      go_ret
      exact ⟨by rw [e1, e2]; rfl, below_alloc HB.out _⟩
  · have e1 : (k == kind) = false := beq_false_of_ne c1
    go_enter Try.func208, Try.ntmps208
    go_wp2
    go_ret
    exact ⟨by rw [e1]; rfl, below_alloc HB.out _⟩
set_option maxHeartbeats 8000000 in
set_option maxRecDepth 100000 in
theorem impl_FindFact.calls (A0 : Option Addr) (c0 : Nat) (l0 : List (S119)) (a1 : Int) (a2 : Int) (a3 : Int) (a4 : Int) (a5 : Int) (r : Int) (w : World) (hr0 : Kd.C k119 w A0 l0.length l0) (hc0 : l0.length ≤ c0) (h : impl_FindFact.f l0 a1 a2 a3 a4 a5 = some r) :
    Calls Try.prog 152 #[.slice A0 l0.length c0, .int .i64 a1, .int .i64 a2, .int .i64 a3, .int .i64 a4, .int .i64 a5] w fun e w' => e = .returned (.int .i64 r) ∧ Below w.heap.size w w' := by
  obtain rfl := Option.some.inj h
  have HR := Aside0.mk hr0
  have HC := Aside0.mk hc0
  clear hr0 hc0 h
  have hfn := fun W A' c' (hr' : Kd.C k119 W A' l0.length l0) b1 b2 b3 b4 b5 h1 h2 h3 h4 h5 => Funcs.indexFunc_Fact 208 #[.pointer (some ⟨b1, 0, none⟩), .pointer (some ⟨b2, 0, none⟩), .pointer (some ⟨b3, 0, none⟩), .pointer (some ⟨b4, 0, none⟩), .pointer (some ⟨b5, 0, none⟩)] (fun _ _ => rfl) _ A' c' l0 W hr' (FindFact_fn W b1 b2 b3 b4 b5 a1 a2 a3 a4 a5 l0 h1 h2 h3 h4 h5)
  generalize Funcs.idx (fun x : S119 => x.f0 == a1 && x.f1 == a2 && x.f2 == a3 && Facts.holdsB x.f0 x.f1 x.f2 x.f3 x.f4 x.f5 a4 a5) l0 = z at hfn
  have hmf : ∀ (fn : Fn) (first cap : Array Value) (w : World), (Instr.makeFunc fn first cap).run Try.prog w = .ok (.func fn first cap) w := fun _ _ _ _ => rfl
  go_enter Try.func152, Try.ntmps152
  go_wp2_with (refine (hfn _ A0 c0 (Kd.C_below HR.out (by repeat (first | exact Below.refl _ _ | apply below_alloc))) _ _ _ _ _ (by repeat (first | exact cell_here (by simp [Nat.add_assoc]) | refine cell_past _ ?_)) (by repeat (first | exact cell_here (by simp [Nat.add_assoc]) | refine cell_past _ ?_)) (by repeat (first | exact cell_here (by simp [Nat.add_assoc]) | refine cell_past _ ?_)) (by repeat (first | exact cell_here (by simp [Nat.add_assoc]) | refine cell_past _ ?_)) (by repeat (first | exact cell_here (by simp [Nat.add_assoc]) | refine cell_past _ ?_))).mono ?_; rintro e w' ⟨rfl, hb'⟩)
  go_ret
  exact ⟨rfl, below_step (by repeat (first | exact Below.refl _ _ | apply below_alloc)) hb'⟩
end Go.Proofs.Ytbfochojhmggfaa.R
end
section
namespace Go.Proofs.Ytbfochojhmggfaa.R
open Go.RowKit Go.Proofs.YtbfochojhmggfaaW.PrintWords Go.Proofs.YtbfochojhmggfaaW.PrintLast Go.Proofs.YtbfochojhmggfaaW.PrintMore
attribute [local go_sem] max2_int min2_int max_two min_two max_three min_three max_four min_four
set_option linter.unusedVariables false
set_option linter.unusedSimpArgs false
def impl_BestValue.l0 : Nat → Int → Int → Int → Int → Int → List (S119) → Int → Int → Option (Int)
  | 0, _, _, _, _, _, _, _, _ => none
  | k + 1, x1, x2, x3, x4, x11, x14, x15, x16 => if x16 < x15 then (if 0 ≤ x16 then (if x16 < (x14.length : Int) then (if ((rd_T119 x14 x16).f0) = x1 then (if ((rd_T119 x14 x16).f1) = x2 then ((impl_HoldsAt.f ((rd_T119 x14 x16).f0) ((rd_T119 x14 x16).f1) ((rd_T119 x14 x16).f2) ((rd_T119 x14 x16).f3) ((rd_T119 x14 x16).f4) ((rd_T119 x14 x16).f5) x3 x4).bind fun t873 => (if t873 = true then (impl_BestValue.l0 k x1 x2 x3 x4 (mx x11 ((rd_T119 x14 x16).f2)) x14 x15 (wrap64 (x16 + 1))) else (impl_BestValue.l0 k x1 x2 x3 x4 x11 x14 x15 (wrap64 (x16 + 1))))) else (impl_BestValue.l0 k x1 x2 x3 x4 x11 x14 x15 (wrap64 (x16 + 1)))) else (impl_BestValue.l0 k x1 x2 x3 x4 x11 x14 x15 (wrap64 (x16 + 1)))) else (none)) else (none)) else (some x11)
def impl_BestValue.f (k : Nat) (l0 : List (S119)) (a1 : Int) (a2 : Int) (a3 : Int) (a4 : Int) : Option (Int) := impl_BestValue.l0 k a1 a2 a3 a4 (-1) l0 (l0.length : Int) 0
set_option maxHeartbeats 8000000 in
set_option maxRecDepth 100000 in
theorem impl_BestValue.calls (k : Nat) (A0 : Option Addr) (c0 : Nat) (l0 : List (S119)) (a1 : Int) (a2 : Int) (a3 : Int) (a4 : Int) (r : Int) (w : World) (hr0 : Kd.C k119 w A0 l0.length l0) (hc0 : l0.length ≤ c0) (h : impl_BestValue.f k l0 a1 a2 a3 a4 = some r) :
    Calls Try.prog 153 #[.slice A0 l0.length c0, .int .i64 a1, .int .i64 a2, .int .i64 a3, .int .i64 a4] w fun e w' => e = .returned (.int .i64 r) ∧ Below w.heap.size w w' := by
  have hu119 := Try.underlying119
  have HR0 := Aside0.mk hr0
  have HC0 := Aside0.mk hc0
  clear hr0 hc0
  have HB := Aside0.mk (Below.refl w.heap.size w)
  have H : (impl_BestValue.l0 k a1 a2 a3 a4 (-1) l0 (l0.length : Int) 0) = some r := h
  clear h
  have H' := Aside0.mk H
  clear H
  go_enter Try.func153, Try.ntmps153
  go_wp2
  go_loopg [11, 16] k (fun kq v11 v16 w' => ∃ (x11_1 : Int) (x16_1 : Int), v11 = .int .i64 x11_1 ∧ v16 = .int .i64 x16_1 ∧ Aside0 (impl_BestValue.l0 kq a1 a2 a3 a4 x11_1 l0 (l0.length : Int) x16_1 = some r) ∧ Aside0 (kq ≤ k) ∧ Aside0 (Below w.heap.size w w'))
  case atStart => exact ⟨((-1)), (0), (by first | rfl | (simp; done) | (simp [*]; done)), (by first | rfl | (simp; done) | (simp [*]; done)), H', ⟨Nat.le_refl _⟩, ⟨bb HB.out⟩⟩
  case round =>
    clear H'
    try clear c1
    try clear p2
    obtain ⟨x11_1, x16_1, rfl, rfl, HA, HK1, HB⟩ := hrel
    cases gk with
    | zero => exact absurd HA.out (by simp [impl_BestValue.l0])
    | succ k1 =>
      have H := HA.out
      clear HA
      simp only [impl_BestValue.l0] at H
      by_cases c6 : x16_1 < (l0.length : Int)
      · rw [if_pos c6] at H
        have c6b0 : decide (x16_1 < (l0.length : Int)) = true := decide_eq_true c6
        clear c6
        by_cases c7 : 0 ≤ x16_1
        · rw [if_pos c7] at H
          have c7b0 : decide (0 ≤ x16_1) = true := decide_eq_true c7
          clear c7
          by_cases c8 : x16_1 < (l0.length : Int)
          · rw [if_pos c8] at H
            have c8b0 : decide (x16_1 < (l0.length : Int)) = true := decide_eq_true c8
            clear c8
            by_cases c9 : ((rd_T119 l0 x16_1).f0) = a1
            · rw [if_pos c9] at H
              have c9b0 : (((rd_T119 l0 x16_1).f0) == a1) = true := beq_iff_eq.mpr c9
              have c9b1 : (((rd_T119 l0 x16_1).f0) != a1) = false := bne_eq_false_iff_eq.mpr c9
              clear c9
              by_cases c10 : ((rd_T119 l0 x16_1).f1) = a2
              · rw [if_pos c10] at H
                have c10b0 : (((rd_T119 l0 x16_1).f1) == a2) = true := beq_iff_eq.mpr c10
                have c10b1 : (((rd_T119 l0 x16_1).f1) != a2) = false := bne_eq_false_iff_eq.mpr c10
                clear c10
                replace H := Option.bind_eq_some_iff.mp H
                obtain ⟨t873, A110, H⟩ := H
                replace H : (if t873 = true then (impl_BestValue.l0 k1 a1 a2 a3 a4 (mx x11_1 ((rd_T119 l0 x16_1).f2)) l0 (l0.length : Int) (wrap64 (x16_1 + 1))) else (impl_BestValue.l0 k1 a1 a2 a3 a4 x11_1 l0 (l0.length : Int) (wrap64 (x16_1 + 1)))) = some r := H
                have A11 := Aside0.mk A110
                clear A110
                by_cases c12 : t873 = true
                · subst c12
                  have H1 : (impl_BestValue.l0 k1 a1 a2 a3 a4 (mx x11_1 ((rd_T119 l0 x16_1).f2)) l0 (l0.length : Int) (wrap64 (x16_1 + 1))) = some r := by rw [if_pos rfl] at H; exact H
                  clear H
                  have H := H1
                  clear H1
                  obtain ⟨ji13, hji13⟩ : ∃ j_ : Int, (mx x11_1 ((rd_T119 l0 x16_1).f2)) = j_ := ⟨_, rfl⟩
                  replace H : (impl_BestValue.l0 k1 a1 a2 a3 a4 ji13 l0 (l0.length : Int) (wrap64 (x16_1 + 1))) = some r := by first | (rw [hji13] at H; exact H) | (simp only [hji13] at H ⊢; exact H)
                  (try rw [hji13] at A11)
                  have hji13_ : (if x11_1 < ((rd_T119 l0 x16_1).f2) then ((rd_T119 l0 x16_1).f2) else x11_1) = ji13 := hji13
                  have H' := Aside0.mk H
                  clear H
                  have p871 : 0 ≤ (x16_1 : Int) := of_decide_eq_true (by first | (with_reducible assumption) | assumption)
                  have q871 : x16_1 < (l0.length : Int) := of_decide_eq_true (by first | (with_reducible assumption) | assumption)
                  obtain ⟨ad871, e871, hx871_0, hx871_1, hx871_2, hx871_3, hx871_4, hx871_5⟩ := at_T119 HR0.out x16_1 p871 q871
                  cases e871
                  replace hx871_0 := (HB.out.cell (World.block_lt_of_cell? w _ hx871_0)).trans hx871_0
                  replace hx871_1 := (HB.out.cell (World.block_lt_of_cell? w _ hx871_1)).trans hx871_1
                  replace hx871_2 := (HB.out.cell (World.block_lt_of_cell? w _ hx871_2)).trans hx871_2
                  replace hx871_3 := (HB.out.cell (World.block_lt_of_cell? w _ hx871_3)).trans hx871_3
                  replace hx871_4 := (HB.out.cell (World.block_lt_of_cell? w _ hx871_4)).trans hx871_4
                  replace hx871_5 := (HB.out.cell (World.block_lt_of_cell? w _ hx871_5)).trans hx871_5
                  replace p871 := eq_true p871
                  replace q871 := eq_true q871
                  go_wp2_with (first | ((with_reducible refine gate_dst (N := 13) rfl ?_); refine box_event ?hg (N := 13) ?hd (cs := #[.int .i64 0, .int .i64 0, .int .i64 0, .int .i64 0, .int .i64 0, .int .i64 0]) (t := 119) ?hr ?_; (case hd => rfl); (case hg => rfl); (case hr => first | (go_simp; done) | (go_simp; rfl)); intro gb872 hg w14 hbox hb; have n0_ := Aside0.mk (below_step (bb HB.out) hb); have n1_ := Aside0.mk (hbox); have n2_ := Aside0.mk ((by rw [hg]; exact (below_size (bb HB.out)) : w.heap.size ≤ gb872)); have n3_ := Aside0.mk ((by rw [hg]; exact (below_size (bb HB.out)) : w.heap.size ≤ gb872)); clear HB; have HB := n0_; have BK872 := n1_; have GW872 := n2_; have GE872 := n3_; clear n0_ n1_ n2_ n3_; clear hb hbox hg; have hcz15_0 := cz BK872.out 0 (.int .i64 0); have hcz15_1 := cz BK872.out 1 (.int .i64 0); have hcz15_2 := cz BK872.out 2 (.int .i64 0); have hcz15_3 := cz BK872.out 3 (.int .i64 0); have hcz15_4 := cz BK872.out 4 (.int .i64 0); have hcz15_5 := cz BK872.out 5 (.int .i64 0); have hfz15_0 := blk_frozen BK872.out 0; have hfz15_1 := blk_frozen BK872.out 1; have hfz15_2 := blk_frozen BK872.out 2; have hfz15_3 := blk_frozen BK872.out 3; have hfz15_4 := blk_frozen BK872.out 4; have hfz15_5 := blk_frozen BK872.out 5) | (go_at_call 209; (with_reducible refine (impl_HoldsAt.calls ((rd_T119 l0 x16_1).f0) ((rd_T119 l0 x16_1).f1) ((rd_T119 l0 x16_1).f2) ((rd_T119 l0 x16_1).f3) ((rd_T119 l0 x16_1).f4) ((rd_T119 l0 x16_1).f5) a3 a4 true _ A11.out).mono ?_); rintro e w16 ⟨rfl, hb⟩; have n0_ := Aside0.mk (blk_below (g := gb872) (o := .cells #[.int .i64 ((rd_T119 l0 x16_1).f0), .int .i64 ((rd_T119 l0 x16_1).f1), .int .i64 ((rd_T119 l0 x16_1).f2), .int .i64 ((rd_T119 l0 x16_1).f3), .int .i64 ((rd_T119 l0 x16_1).f4), .int .i64 ((rd_T119 l0 x16_1).f5)] 119 (0, 0)) (by (with_reducible repeat (first | refine blk_drewN ?_ _ | refine blk_drew ?_ | refine blk_alloc ?_ _)); refine blk_put (cs := #[.int .i64 ((rd_T119 l0 x16_1).f0), .int .i64 ((rd_T119 l0 x16_1).f1), .int .i64 ((rd_T119 l0 x16_1).f2), .int .i64 ((rd_T119 l0 x16_1).f3), .int .i64 ((rd_T119 l0 x16_1).f4), .int .i64 0]) ?_ 5 _ rfl; (with_reducible repeat (first | refine blk_drewN ?_ _ | refine blk_drew ?_ | refine blk_alloc ?_ _)); refine blk_put (cs := #[.int .i64 ((rd_T119 l0 x16_1).f0), .int .i64 ((rd_T119 l0 x16_1).f1), .int .i64 ((rd_T119 l0 x16_1).f2), .int .i64 ((rd_T119 l0 x16_1).f3), .int .i64 0, .int .i64 0]) ?_ 4 _ rfl; (with_reducible repeat (first | refine blk_drewN ?_ _ | refine blk_drew ?_ | refine blk_alloc ?_ _)); refine blk_put (cs := #[.int .i64 ((rd_T119 l0 x16_1).f0), .int .i64 ((rd_T119 l0 x16_1).f1), .int .i64 ((rd_T119 l0 x16_1).f2), .int .i64 0, .int .i64 0, .int .i64 0]) ?_ 3 _ rfl; (with_reducible repeat (first | refine blk_drewN ?_ _ | refine blk_drew ?_ | refine blk_alloc ?_ _)); refine blk_put (cs := #[.int .i64 ((rd_T119 l0 x16_1).f0), .int .i64 ((rd_T119 l0 x16_1).f1), .int .i64 0, .int .i64 0, .int .i64 0, .int .i64 0]) ?_ 2 _ rfl; (with_reducible repeat (first | refine blk_drewN ?_ _ | refine blk_drew ?_ | refine blk_alloc ?_ _)); refine blk_put (cs := #[.int .i64 ((rd_T119 l0 x16_1).f0), .int .i64 0, .int .i64 0, .int .i64 0, .int .i64 0, .int .i64 0]) ?_ 1 _ rfl; (with_reducible repeat (first | refine blk_drewN ?_ _ | refine blk_drew ?_ | refine blk_alloc ?_ _)); refine blk_put (cs := #[.int .i64 0, .int .i64 0, .int .i64 0, .int .i64 0, .int .i64 0, .int .i64 0]) ?_ 0 _ rfl; (with_reducible repeat (first | refine blk_drewN ?_ _ | refine blk_drew ?_ | refine blk_alloc ?_ _)); exact BK872.out) hb); have n1_ := Aside0.mk (below_step (bb HB.out) hb); clear BK872; clear HB; have BK872 := n0_; have HB := n1_; clear n0_ n1_; (try clear hb); (try clear hb2); (try clear hk); (try clear hi); have hcz17_0 := cz BK872.out 0 (.int .i64 ((rd_T119 l0 x16_1).f0)); have hcz17_1 := cz BK872.out 1 (.int .i64 ((rd_T119 l0 x16_1).f1)); have hcz17_2 := cz BK872.out 2 (.int .i64 ((rd_T119 l0 x16_1).f2)); have hcz17_3 := cz BK872.out 3 (.int .i64 ((rd_T119 l0 x16_1).f3)); have hcz17_4 := cz BK872.out 4 (.int .i64 ((rd_T119 l0 x16_1).f4)); have hcz17_5 := cz BK872.out 5 (.int .i64 ((rd_T119 l0 x16_1).f5)); have hfz17_0 := blk_frozen BK872.out 0; have hfz17_1 := blk_frozen BK872.out 1; have hfz17_2 := blk_frozen BK872.out 2; have hfz17_3 := blk_frozen BK872.out 3; have hfz17_4 := blk_frozen BK872.out 4; have hfz17_5 := blk_frozen BK872.out 5))
                  go_roundg k1
                  case measure => have := HK1.out; omega
                  case rel => exact ⟨(ji13), (wrap64 (x16_1 + 1)), (by first | rfl | (simp; done) | (simp only [← hji13] <;> (first | rfl | simp)) | (simp [*]; done)), (by first | rfl | (simp; done) | (simp [*]; done)), H', ⟨by have := HK1.out; omega⟩, ⟨bb HB.out⟩⟩
                · replace c12 := Bool.eq_false_iff.mpr c12
                  subst c12
                  have H1 : (impl_BestValue.l0 k1 a1 a2 a3 a4 x11_1 l0 (l0.length : Int) (wrap64 (x16_1 + 1))) = some r := by rw [if_neg (show ¬ (false = true) by decide)] at H; exact H
                  clear H
                  have H := H1
                  clear H1
                  have H' := Aside0.mk H
                  clear H
                  have p871 : 0 ≤ (x16_1 : Int) := of_decide_eq_true (by first | (with_reducible assumption) | assumption)
                  have q871 : x16_1 < (l0.length : Int) := of_decide_eq_true (by first | (with_reducible assumption) | assumption)
                  obtain ⟨ad871, e871, hx871_0, hx871_1, hx871_2, hx871_3, hx871_4, hx871_5⟩ := at_T119 HR0.out x16_1 p871 q871
                  cases e871
                  replace hx871_0 := (HB.out.cell (World.block_lt_of_cell? w _ hx871_0)).trans hx871_0
                  replace hx871_1 := (HB.out.cell (World.block_lt_of_cell? w _ hx871_1)).trans hx871_1
                  replace hx871_2 := (HB.out.cell (World.block_lt_of_cell? w _ hx871_2)).trans hx871_2
                  replace hx871_3 := (HB.out.cell (World.block_lt_of_cell? w _ hx871_3)).trans hx871_3
                  replace hx871_4 := (HB.out.cell (World.block_lt_of_cell? w _ hx871_4)).trans hx871_4
                  replace hx871_5 := (HB.out.cell (World.block_lt_of_cell? w _ hx871_5)).trans hx871_5
                  replace p871 := eq_true p871
                  replace q871 := eq_true q871
                  go_wp2_with (first | ((with_reducible refine gate_dst (N := 13) rfl ?_); refine box_event ?hg (N := 13) ?hd (cs := #[.int .i64 0, .int .i64 0, .int .i64 0, .int .i64 0, .int .i64 0, .int .i64 0]) (t := 119) ?hr ?_; (case hd => rfl); (case hg => rfl); (case hr => first | (go_simp; done) | (go_simp; rfl)); intro gb872 hg w18 hbox hb; have n0_ := Aside0.mk (below_step (bb HB.out) hb); have n1_ := Aside0.mk (hbox); have n2_ := Aside0.mk ((by rw [hg]; exact (below_size (bb HB.out)) : w.heap.size ≤ gb872)); have n3_ := Aside0.mk ((by rw [hg]; exact (below_size (bb HB.out)) : w.heap.size ≤ gb872)); clear HB; have HB := n0_; have BK872 := n1_; have GW872 := n2_; have GE872 := n3_; clear n0_ n1_ n2_ n3_; clear hb hbox hg; have hcz19_0 := cz BK872.out 0 (.int .i64 0); have hcz19_1 := cz BK872.out 1 (.int .i64 0); have hcz19_2 := cz BK872.out 2 (.int .i64 0); have hcz19_3 := cz BK872.out 3 (.int .i64 0); have hcz19_4 := cz BK872.out 4 (.int .i64 0); have hcz19_5 := cz BK872.out 5 (.int .i64 0); have hfz19_0 := blk_frozen BK872.out 0; have hfz19_1 := blk_frozen BK872.out 1; have hfz19_2 := blk_frozen BK872.out 2; have hfz19_3 := blk_frozen BK872.out 3; have hfz19_4 := blk_frozen BK872.out 4; have hfz19_5 := blk_frozen BK872.out 5) | (go_at_call 209; (with_reducible refine (impl_HoldsAt.calls ((rd_T119 l0 x16_1).f0) ((rd_T119 l0 x16_1).f1) ((rd_T119 l0 x16_1).f2) ((rd_T119 l0 x16_1).f3) ((rd_T119 l0 x16_1).f4) ((rd_T119 l0 x16_1).f5) a3 a4 false _ A11.out).mono ?_); rintro e w20 ⟨rfl, hb⟩; have n0_ := Aside0.mk (blk_below (g := gb872) (o := .cells #[.int .i64 ((rd_T119 l0 x16_1).f0), .int .i64 ((rd_T119 l0 x16_1).f1), .int .i64 ((rd_T119 l0 x16_1).f2), .int .i64 ((rd_T119 l0 x16_1).f3), .int .i64 ((rd_T119 l0 x16_1).f4), .int .i64 ((rd_T119 l0 x16_1).f5)] 119 (0, 0)) (by (with_reducible repeat (first | refine blk_drewN ?_ _ | refine blk_drew ?_ | refine blk_alloc ?_ _)); refine blk_put (cs := #[.int .i64 ((rd_T119 l0 x16_1).f0), .int .i64 ((rd_T119 l0 x16_1).f1), .int .i64 ((rd_T119 l0 x16_1).f2), .int .i64 ((rd_T119 l0 x16_1).f3), .int .i64 ((rd_T119 l0 x16_1).f4), .int .i64 0]) ?_ 5 _ rfl; (with_reducible repeat (first | refine blk_drewN ?_ _ | refine blk_drew ?_ | refine blk_alloc ?_ _)); refine blk_put (cs := #[.int .i64 ((rd_T119 l0 x16_1).f0), .int .i64 ((rd_T119 l0 x16_1).f1), .int .i64 ((rd_T119 l0 x16_1).f2), .int .i64 ((rd_T119 l0 x16_1).f3), .int .i64 0, .int .i64 0]) ?_ 4 _ rfl; (with_reducible repeat (first | refine blk_drewN ?_ _ | refine blk_drew ?_ | refine blk_alloc ?_ _)); refine blk_put (cs := #[.int .i64 ((rd_T119 l0 x16_1).f0), .int .i64 ((rd_T119 l0 x16_1).f1), .int .i64 ((rd_T119 l0 x16_1).f2), .int .i64 0, .int .i64 0, .int .i64 0]) ?_ 3 _ rfl; (with_reducible repeat (first | refine blk_drewN ?_ _ | refine blk_drew ?_ | refine blk_alloc ?_ _)); refine blk_put (cs := #[.int .i64 ((rd_T119 l0 x16_1).f0), .int .i64 ((rd_T119 l0 x16_1).f1), .int .i64 0, .int .i64 0, .int .i64 0, .int .i64 0]) ?_ 2 _ rfl; (with_reducible repeat (first | refine blk_drewN ?_ _ | refine blk_drew ?_ | refine blk_alloc ?_ _)); refine blk_put (cs := #[.int .i64 ((rd_T119 l0 x16_1).f0), .int .i64 0, .int .i64 0, .int .i64 0, .int .i64 0, .int .i64 0]) ?_ 1 _ rfl; (with_reducible repeat (first | refine blk_drewN ?_ _ | refine blk_drew ?_ | refine blk_alloc ?_ _)); refine blk_put (cs := #[.int .i64 0, .int .i64 0, .int .i64 0, .int .i64 0, .int .i64 0, .int .i64 0]) ?_ 0 _ rfl; (with_reducible repeat (first | refine blk_drewN ?_ _ | refine blk_drew ?_ | refine blk_alloc ?_ _)); exact BK872.out) hb); have n1_ := Aside0.mk (below_step (bb HB.out) hb); clear BK872; clear HB; have BK872 := n0_; have HB := n1_; clear n0_ n1_; (try clear hb); (try clear hb2); (try clear hk); (try clear hi)))
                  go_roundg k1
                  case measure => have := HK1.out; omega
                  case rel => exact ⟨(x11_1), (wrap64 (x16_1 + 1)), (by first | rfl | (simp; done) | (simp [*]; done)), (by first | rfl | (simp; done) | (simp [*]; done)), H', ⟨by have := HK1.out; omega⟩, ⟨bb HB.out⟩⟩
              · rw [if_neg c10] at H
                have c10b0 : (((rd_T119 l0 x16_1).f1) == a2) = false := beq_eq_false_iff_ne.mpr c10
                have c10b1 : (((rd_T119 l0 x16_1).f1) != a2) = true := bne_iff_ne.mpr c10
                have H' := Aside0.mk H
                clear H
                have p871 : 0 ≤ (x16_1 : Int) := of_decide_eq_true (by first | (with_reducible assumption) | assumption)
                have q871 : x16_1 < (l0.length : Int) := of_decide_eq_true (by first | (with_reducible assumption) | assumption)
                obtain ⟨ad871, e871, hx871_0, hx871_1, hx871_2, hx871_3, hx871_4, hx871_5⟩ := at_T119 HR0.out x16_1 p871 q871
                cases e871
                replace hx871_0 := (HB.out.cell (World.block_lt_of_cell? w _ hx871_0)).trans hx871_0
                replace hx871_1 := (HB.out.cell (World.block_lt_of_cell? w _ hx871_1)).trans hx871_1
                replace hx871_2 := (HB.out.cell (World.block_lt_of_cell? w _ hx871_2)).trans hx871_2
                replace hx871_3 := (HB.out.cell (World.block_lt_of_cell? w _ hx871_3)).trans hx871_3
                replace hx871_4 := (HB.out.cell (World.block_lt_of_cell? w _ hx871_4)).trans hx871_4
                replace hx871_5 := (HB.out.cell (World.block_lt_of_cell? w _ hx871_5)).trans hx871_5
                replace p871 := eq_true p871
                replace q871 := eq_true q871
                go_wp2_with (first | ((with_reducible refine gate_dst (N := 13) rfl ?_); refine box_event ?hg (N := 13) ?hd (cs := #[.int .i64 0, .int .i64 0, .int .i64 0, .int .i64 0, .int .i64 0, .int .i64 0]) (t := 119) ?hr ?_; (case hd => rfl); (case hg => rfl); (case hr => first | (go_simp; done) | (go_simp; rfl)); intro gb872 hg w21 hbox hb; have n0_ := Aside0.mk (below_step (bb HB.out) hb); have n1_ := Aside0.mk (hbox); have n2_ := Aside0.mk ((by rw [hg]; exact (below_size (bb HB.out)) : w.heap.size ≤ gb872)); have n3_ := Aside0.mk ((by rw [hg]; exact (below_size (bb HB.out)) : w.heap.size ≤ gb872)); clear HB; have HB := n0_; have BK872 := n1_; have GW872 := n2_; have GE872 := n3_; clear n0_ n1_ n2_ n3_; clear hb hbox hg; have hcz22_0 := cz BK872.out 0 (.int .i64 0); have hcz22_1 := cz BK872.out 1 (.int .i64 0); have hcz22_2 := cz BK872.out 2 (.int .i64 0); have hcz22_3 := cz BK872.out 3 (.int .i64 0); have hcz22_4 := cz BK872.out 4 (.int .i64 0); have hcz22_5 := cz BK872.out 5 (.int .i64 0); have hfz22_0 := blk_frozen BK872.out 0; have hfz22_1 := blk_frozen BK872.out 1; have hfz22_2 := blk_frozen BK872.out 2; have hfz22_3 := blk_frozen BK872.out 3; have hfz22_4 := blk_frozen BK872.out 4; have hfz22_5 := blk_frozen BK872.out 5))
                go_roundg k1
                case measure => have := HK1.out; omega
                case rel => exact ⟨(x11_1), (wrap64 (x16_1 + 1)), (by first | rfl | (simp; done) | (simp [*]; done)), (by first | rfl | (simp; done) | (simp [*]; done)), H', ⟨by have := HK1.out; omega⟩, ⟨bb HB.out⟩⟩
            · rw [if_neg c9] at H
              have c9b0 : (((rd_T119 l0 x16_1).f0) == a1) = false := beq_eq_false_iff_ne.mpr c9
              have c9b1 : (((rd_T119 l0 x16_1).f0) != a1) = true := bne_iff_ne.mpr c9
              have H' := Aside0.mk H
              clear H
              have p871 : 0 ≤ (x16_1 : Int) := of_decide_eq_true (by first | (with_reducible assumption) | assumption)
              have q871 : x16_1 < (l0.length : Int) := of_decide_eq_true (by first | (with_reducible assumption) | assumption)
              obtain ⟨ad871, e871, hx871_0, hx871_1, hx871_2, hx871_3, hx871_4, hx871_5⟩ := at_T119 HR0.out x16_1 p871 q871
              cases e871
              replace hx871_0 := (HB.out.cell (World.block_lt_of_cell? w _ hx871_0)).trans hx871_0
              replace hx871_1 := (HB.out.cell (World.block_lt_of_cell? w _ hx871_1)).trans hx871_1
              replace hx871_2 := (HB.out.cell (World.block_lt_of_cell? w _ hx871_2)).trans hx871_2
              replace hx871_3 := (HB.out.cell (World.block_lt_of_cell? w _ hx871_3)).trans hx871_3
              replace hx871_4 := (HB.out.cell (World.block_lt_of_cell? w _ hx871_4)).trans hx871_4
              replace hx871_5 := (HB.out.cell (World.block_lt_of_cell? w _ hx871_5)).trans hx871_5
              replace p871 := eq_true p871
              replace q871 := eq_true q871
              go_wp2_with (first | ((with_reducible refine gate_dst (N := 13) rfl ?_); refine box_event ?hg (N := 13) ?hd (cs := #[.int .i64 0, .int .i64 0, .int .i64 0, .int .i64 0, .int .i64 0, .int .i64 0]) (t := 119) ?hr ?_; (case hd => rfl); (case hg => rfl); (case hr => first | (go_simp; done) | (go_simp; rfl)); intro gb872 hg w23 hbox hb; have n0_ := Aside0.mk (below_step (bb HB.out) hb); have n1_ := Aside0.mk (hbox); have n2_ := Aside0.mk ((by rw [hg]; exact (below_size (bb HB.out)) : w.heap.size ≤ gb872)); have n3_ := Aside0.mk ((by rw [hg]; exact (below_size (bb HB.out)) : w.heap.size ≤ gb872)); clear HB; have HB := n0_; have BK872 := n1_; have GW872 := n2_; have GE872 := n3_; clear n0_ n1_ n2_ n3_; clear hb hbox hg; have hcz24_0 := cz BK872.out 0 (.int .i64 0); have hcz24_1 := cz BK872.out 1 (.int .i64 0); have hcz24_2 := cz BK872.out 2 (.int .i64 0); have hcz24_3 := cz BK872.out 3 (.int .i64 0); have hcz24_4 := cz BK872.out 4 (.int .i64 0); have hcz24_5 := cz BK872.out 5 (.int .i64 0); have hfz24_0 := blk_frozen BK872.out 0; have hfz24_1 := blk_frozen BK872.out 1; have hfz24_2 := blk_frozen BK872.out 2; have hfz24_3 := blk_frozen BK872.out 3; have hfz24_4 := blk_frozen BK872.out 4; have hfz24_5 := blk_frozen BK872.out 5))
              go_roundg k1
              case measure => have := HK1.out; omega
              case rel => exact ⟨(x11_1), (wrap64 (x16_1 + 1)), (by first | rfl | (simp; done) | (simp [*]; done)), (by first | rfl | (simp; done) | (simp [*]; done)), H', ⟨by have := HK1.out; omega⟩, ⟨bb HB.out⟩⟩
          · rw [if_neg c8] at H
            exact absurd H (by simp)
        · rw [if_neg c7] at H
          exact absurd H (by simp)
      · rw [if_neg c6] at H
        have c6b0 : decide (x16_1 < (l0.length : Int)) = false := decide_eq_false c6
        clear c6
        obtain rfl := Option.some.inj H
        go_wp2
        go_ret
        exact ⟨by first | rfl | (simp [errW_none, errW_some] <;> rfl) | (simp [*, errW_none, errW_some] <;> rfl), bb HB.out⟩
def impl_LeafHolds.f (k : Nat) (l0 : List (S176)) (l1 : List (S119)) (a2_0 : Int) (a2_1 : Int) (a2_2 : Int) (l2_3 : List (S109)) (a3_0 : Int) (a3_1 : Int) (a3_2 : Int) (a3_3 : Int) (a3_4 : Int) (a3_5 : Int) : Option (Bool) := if a2_0 = 1 then (some true) else (if a2_0 = 2 then ((impl_HasRole.f k l0 l1 a3_0 a2_1 a3_5 a2_2).bind fun t876 => (some t876)) else (if a2_0 = 3 then ((impl_FindFact.f l1 2 a3_0 a3_1 a3_5 a2_2).bind fun t877 => (some (t877 != (-1)))) else (if a2_0 = 4 then ((impl_BestValue.f k l1 3 a3_1 a3_5 a2_2).bind fun t878 => (some (decide (t878 ≥ a2_1)))) else (if a2_0 = 5 then ((impl_BestValue.f k l1 4 a3_2 a3_5 a2_2).bind fun t879 => (some (decide (t879 ≥ a2_1)))) else (if a2_0 = 6 then (some (decide (a3_5 ≤ a2_1))) else (some false))))))
def impl_LeafHolds.T9 : Bool × List (List Nat × List Nat) := (true, [([], []), ([], []), ([1], [1]), ([], []), ([3], [3]), ([], []), ([5], [5]), ([0, 2, 4, 6], [0, 2, 4, 6]), ([], []), ([8], [8]), ([7, 9], [7, 9]), ([10, 7, 0, 1, 2, 3, 4, 5, 6, 7, 8, 9, 10], [10])])
def impl_LeafHolds.B9 : List Nat := [0, 0, 2, 0, 8, 0, 32, 127, 0, 256, 1023, 2047]
theorem impl_LeafHolds.tab9 : rtab .any (opsOf Try.f71 9) = impl_LeafHolds.T9 := by kernel_rfl
theorem impl_LeafHolds.bits9 : waitsOk impl_LeafHolds.T9.2 impl_LeafHolds.B9 = true := by kernel_rfl
def impl_LeafHolds.T11 : Bool × List (List Nat × List Nat) := (true, [([], []), ([], []), ([1], [1]), ([], []), ([3], [3]), ([], []), ([5], [5]), ([0, 2, 4, 6], [0, 2, 4, 6]), ([], []), ([8], [8]), ([7, 9], [7, 9]), ([10, 7, 0, 1, 2, 3, 4, 5, 6, 7, 8, 9, 10], [10])])
def impl_LeafHolds.B11 : List Nat := [0, 0, 2, 0, 8, 0, 32, 127, 0, 256, 1023, 2047]
theorem impl_LeafHolds.tab11 : rtab .any (opsOf Try.f71 11) = impl_LeafHolds.T11 := by kernel_rfl
theorem impl_LeafHolds.bits11 : waitsOk impl_LeafHolds.T11.2 impl_LeafHolds.B11 = true := by kernel_rfl
set_option maxHeartbeats 8000000 in
set_option maxRecDepth 100000 in
theorem impl_LeafHolds.calls (k : Nat) (A0 : Option Addr) (c0 : Nat) (l0 : List (S176)) (A1 : Option Addr) (c1 : Nat) (l1 : List (S119)) (a2_0 : Int) (a2_1 : Int) (a2_2 : Int) (A2_3 : Option Addr) (c2_3 : Nat) (l2_3 : List (S109)) (a3_0 : Int) (a3_1 : Int) (a3_2 : Int) (a3_3 : Int) (a3_4 : Int) (a3_5 : Int) (r : Bool) (w : World) (hr0 : Kd.C k176 w A0 l0.length l0) (hc0 : l0.length ≤ c0) (hr1 : Kd.C k119 w A1 l1.length l1) (hc1 : l1.length ≤ c1) (hr2_3 : Kd.C k109 w A2_3 l2_3.length l2_3) (hc2_3 : l2_3.length ≤ c2_3) (h : impl_LeafHolds.f k l0 l1 a2_0 a2_1 a2_2 l2_3 a3_0 a3_1 a3_2 a3_3 a3_4 a3_5 = some r) :
    Calls Try.prog 71 #[.slice A0 l0.length c0, .slice A1 l1.length c1, .agg #[.int .i64 a2_0, .int .i64 a2_1, .int .i64 a2_2, .slice A2_3 l2_3.length c2_3], .agg #[.int .i64 a3_0, .int .i64 a3_1, .int .i64 a3_2, .int .i64 a3_3, .int .i64 a3_4, .int .i64 a3_5]] w fun e w' => e = .returned (.bool r) ∧ Below w.heap.size w w' := by
  have hu109 := Try.underlying109
  have hu111 := Try.underlying111
  have HR0 := Aside0.mk hr0
  have HC0 := Aside0.mk hc0
  clear hr0 hc0
  have HR1 := Aside0.mk hr1
  have HC1 := Aside0.mk hc1
  clear hr1 hc1
  have HR2_3 := Aside0.mk hr2_3
  have HC2_3 := Aside0.mk hc2_3
  clear hr2_3 hc2_3
  have HB := Aside0.mk (Below.refl w.heap.size w)
  have H : (if a2_0 = 1 then (some true) else (if a2_0 = 2 then ((impl_HasRole.f k l0 l1 a3_0 a2_1 a3_5 a2_2).bind fun t876 => (some t876)) else (if a2_0 = 3 then ((impl_FindFact.f l1 2 a3_0 a3_1 a3_5 a2_2).bind fun t877 => (some (t877 != (-1)))) else (if a2_0 = 4 then ((impl_BestValue.f k l1 3 a3_1 a3_5 a2_2).bind fun t878 => (some (decide (t878 ≥ a2_1)))) else (if a2_0 = 5 then ((impl_BestValue.f k l1 4 a3_2 a3_5 a2_2).bind fun t879 => (some (decide (t879 ≥ a2_1)))) else (if a2_0 = 6 then (some (decide (a3_5 ≤ a2_1))) else (some false))))))) = some r := h
  clear h
  by_cases c5 : a2_0 = 1
  · rw [if_pos c5] at H
    have c5b0 : (a2_0 == 1) = true := beq_iff_eq.mpr c5
    have c5b1 : (a2_0 != 1) = false := bne_eq_false_iff_eq.mpr c5
    clear c5
    obtain rfl := Option.some.inj H
    go_enter Try.func71, Try.ntmps71
    go_wp2_with (first | ((with_reducible refine gate_dst (N := 6) rfl ?_); refine box_event ?hg (N := 6) ?hd (cs := #[.int .i64 a2_0, .int .i64 a2_1, .int .i64 a2_2, .slice A2_3 l2_3.length c2_3]) (t := 109) ?hr ?_; (case hd => rfl); (case hg => rfl); (case hr => first | (go_simp; done) | (go_simp; rfl)); intro gb874 hg w6 hbox hb; have n0_ := Aside0.mk (below_step (bb HB.out) hb); have n1_ := Aside0.mk (hbox); have n2_ := Aside0.mk ((by rw [hg]; exact (below_size (bb HB.out)) : w.heap.size ≤ gb874)); have n3_ := Aside0.mk ((by rw [hg]; exact (below_size (bb HB.out)) : w.heap.size ≤ gb874)); clear HB; have HB := n0_; have BK874 := n1_; have GW874 := n2_; have GE874 := n3_; clear n0_ n1_ n2_ n3_; clear hb hbox hg) | ((with_reducible refine gate_dst (N := 7) rfl ?_); refine box_event ?hg (N := 7) ?hd (cs := #[.int .i64 a3_0, .int .i64 a3_1, .int .i64 a3_2, .int .i64 a3_3, .int .i64 a3_4, .int .i64 a3_5]) (t := 111) ?hr ?_; (case hd => rfl); (case hg => rfl); (case hr => first | (go_simp; done) | (go_simp; rfl)); intro gb875 hg w7 hbox hb; have n0_ := Aside0.mk (blk_below (rb BK874.out) hb); have n1_ := Aside0.mk (below_step (bb HB.out) hb); have n2_ := Aside0.mk (hbox); have n3_ := Aside0.mk ((by rw [hg]; exact (below_size (bb HB.out)) : w.heap.size ≤ gb875)); have n4_ := Aside0.mk ((by rw [hg]; exact (below_size (bb HB.out)) : w.heap.size ≤ gb875)); have n5_ := Aside0.mk ((by rw [hg]; exact Nat.ne_of_lt (blk_lt (g := gb874) (o := .cells #[.int .i64 a2_0, .int .i64 a2_1, .int .i64 a2_2, .slice A2_3 l2_3.length c2_3] 109 (0, 0)) (rb BK874.out)) : gb874 ≠ gb875)); have n6_ := Aside0.mk ((by rw [hg]; exact Nat.ne_of_gt (blk_lt (g := gb874) (o := .cells #[.int .i64 a2_0, .int .i64 a2_1, .int .i64 a2_2, .slice A2_3 l2_3.length c2_3] 109 (0, 0)) (rb BK874.out)) : gb875 ≠ gb874)); clear BK874; clear HB; have BK874 := n0_; have HB := n1_; have BK875 := n2_; have GW875 := n3_; have GE875 := n4_; have NB874_875 := n5_; have NB875_874 := n6_; clear n0_ n1_ n2_ n3_ n4_ n5_ n6_; clear hb hbox hg; have hnb8 := NB874_875.out; have hnc8 := NB875_874.out; have hcz9_0 := cz BK874.out 0 (.int .i64 a2_0); have hcz9_1 := cz BK874.out 1 (.int .i64 a2_1); have hcz9_2 := cz BK874.out 2 (.int .i64 a2_2); have hcz9_3 := cz BK874.out 3 (.slice A2_3 l2_3.length c2_3); have hfz9_0 := blk_frozen BK874.out 0; have hfz9_1 := blk_frozen BK874.out 1; have hfz9_2 := blk_frozen BK874.out 2; have hfz9_3 := blk_frozen BK874.out 3))
    go_ret
    exact ⟨by first | rfl | (simp [errW_none, errW_some] <;> rfl) | (simp [*, errW_none, errW_some] <;> rfl), bb HB.out⟩
  · rw [if_neg c5] at H
    have c5b0 : (a2_0 == 1) = false := beq_eq_false_iff_ne.mpr c5
    have c5b1 : (a2_0 != 1) = true := bne_iff_ne.mpr c5
    by_cases c10 : a2_0 = 2
    · rw [if_pos c10] at H
      have c10b0 : (a2_0 == 2) = true := beq_iff_eq.mpr c10
      have c10b1 : (a2_0 != 2) = false := bne_eq_false_iff_eq.mpr c10
      clear c10
      replace H := Option.bind_eq_some_iff.mp H
      obtain ⟨t876, A110, H⟩ := H
      replace H : (some t876) = some r := H
      have A11 := Aside0.mk A110
      clear A110
      obtain rfl := Option.some.inj H
      go_enter Try.func71, Try.ntmps71
      go_wp2_with (first | ((with_reducible refine gate_dst (N := 6) rfl ?_); refine box_event ?hg (N := 6) ?hd (cs := #[.int .i64 a2_0, .int .i64 a2_1, .int .i64 a2_2, .slice A2_3 l2_3.length c2_3]) (t := 109) ?hr ?_; (case hd => rfl); (case hg => rfl); (case hr => first | (go_simp; done) | (go_simp; rfl)); intro gb874 hg w12 hbox hb; have n0_ := Aside0.mk (below_step (bb HB.out) hb); have n1_ := Aside0.mk (hbox); have n2_ := Aside0.mk ((by rw [hg]; exact (below_size (bb HB.out)) : w.heap.size ≤ gb874)); have n3_ := Aside0.mk ((by rw [hg]; exact (below_size (bb HB.out)) : w.heap.size ≤ gb874)); clear HB; have HB := n0_; have BK874 := n1_; have GW874 := n2_; have GE874 := n3_; clear n0_ n1_ n2_ n3_; clear hb hbox hg) | ((with_reducible refine gate_dst (N := 7) rfl ?_); refine box_event ?hg (N := 7) ?hd (cs := #[.int .i64 a3_0, .int .i64 a3_1, .int .i64 a3_2, .int .i64 a3_3, .int .i64 a3_4, .int .i64 a3_5]) (t := 111) ?hr ?_; (case hd => rfl); (case hg => rfl); (case hr => first | (go_simp; done) | (go_simp; rfl)); intro gb875 hg w13 hbox hb; have n0_ := Aside0.mk (blk_below (rb BK874.out) hb); have n1_ := Aside0.mk (below_step (bb HB.out) hb); have n2_ := Aside0.mk (hbox); have n3_ := Aside0.mk ((by rw [hg]; exact (below_size (bb HB.out)) : w.heap.size ≤ gb875)); have n4_ := Aside0.mk ((by rw [hg]; exact (below_size (bb HB.out)) : w.heap.size ≤ gb875)); have n5_ := Aside0.mk ((by rw [hg]; exact Nat.ne_of_lt (blk_lt (g := gb874) (o := .cells #[.int .i64 a2_0, .int .i64 a2_1, .int .i64 a2_2, .slice A2_3 l2_3.length c2_3] 109 (0, 0)) (rb BK874.out)) : gb874 ≠ gb875)); have n6_ := Aside0.mk ((by rw [hg]; exact Nat.ne_of_gt (blk_lt (g := gb874) (o := .cells #[.int .i64 a2_0, .int .i64 a2_1, .int .i64 a2_2, .slice A2_3 l2_3.length c2_3] 109 (0, 0)) (rb BK874.out)) : gb875 ≠ gb874)); clear BK874; clear HB; have BK874 := n0_; have HB := n1_; have BK875 := n2_; have GW875 := n3_; have GE875 := n4_; have NB874_875 := n5_; have NB875_874 := n6_; clear n0_ n1_ n2_ n3_ n4_ n5_ n6_; clear hb hbox hg; have hnb14 := NB874_875.out; have hnc14 := NB875_874.out; have hcz15_0 := cz BK874.out 0 (.int .i64 a2_0); have hcz15_1 := cz BK874.out 1 (.int .i64 a2_1); have hcz15_2 := cz BK874.out 2 (.int .i64 a2_2); have hcz15_3 := cz BK874.out 3 (.slice A2_3 l2_3.length c2_3); have hfz15_0 := blk_frozen BK874.out 0; have hfz15_1 := blk_frozen BK874.out 1; have hfz15_2 := blk_frozen BK874.out 2; have hfz15_3 := blk_frozen BK874.out 3; have hcz16_0 := cz BK875.out 0 (.int .i64 a3_0); have hcz16_1 := cz BK875.out 1 (.int .i64 a3_1); have hcz16_2 := cz BK875.out 2 (.int .i64 a3_2); have hcz16_3 := cz BK875.out 3 (.int .i64 a3_3); have hcz16_4 := cz BK875.out 4 (.int .i64 a3_4); have hcz16_5 := cz BK875.out 5 (.int .i64 a3_5); have hfz16_0 := blk_frozen BK875.out 0; have hfz16_1 := blk_frozen BK875.out 1; have hfz16_2 := blk_frozen BK875.out 2; have hfz16_3 := blk_frozen BK875.out 3; have hfz16_4 := blk_frozen BK875.out 4; have hfz16_5 := blk_frozen BK875.out 5) | ((with_reducible refine gate_callee (f := 151) rfl ?_); refine gm (some 25) Try.func151 #[.slice A0 l0.length c0, .slice A1 l1.length c1, .int .i64 a3_0, .int .i64 a2_1, .int .i64 a3_5, .int .i64 a2_2] ?_; (with_reducible refine (impl_HasRole.calls k _ _ l0 _ _ l1 a3_0 a2_1 a3_5 a2_2 t876 _ ?side1 ?side2 ?side3 ?side4 A11.out).mono ?_); (case side1 => repeat (first | exact (Kd.C_below HR0.out HB.out) | (with_reducible refine Kd.C_alloc ?_ _) | (with_reducible refine Kd.C_drewN ?_ _) | (with_reducible refine Kd.C_drew ?_))); (case side2 => exact HC0.out); (case side3 => repeat (first | exact (Kd.C_below HR1.out HB.out) | (with_reducible refine Kd.C_alloc ?_ _) | (with_reducible refine Kd.C_drewN ?_ _) | (with_reducible refine Kd.C_drew ?_))); (case side4 => exact HC1.out); rintro e w17 ⟨rfl, hb⟩; refine ⟨_, rfl, ?_⟩; have n0_ := Aside0.mk (blk_below (rb BK874.out) hb); have n1_ := Aside0.mk (blk_below (rb BK875.out) hb); have n2_ := Aside0.mk (below_step (bb HB.out) hb); clear BK874; clear BK875; clear HB; have BK874 := n0_; have BK875 := n1_; have HB := n2_; clear n0_ n1_ n2_; (try clear hb); (try clear hb2); (try clear hk); (try clear hi)))
      go_ret
      exact ⟨by first | rfl | (simp [errW_none, errW_some] <;> rfl) | (simp [*, errW_none, errW_some] <;> rfl), bb HB.out⟩
    · rw [if_neg c10] at H
      have c10b0 : (a2_0 == 2) = false := beq_eq_false_iff_ne.mpr c10
      have c10b1 : (a2_0 != 2) = true := bne_iff_ne.mpr c10
      by_cases c18 : a2_0 = 3
      · rw [if_pos c18] at H
        have c18b0 : (a2_0 == 3) = true := beq_iff_eq.mpr c18
        have c18b1 : (a2_0 != 3) = false := bne_eq_false_iff_eq.mpr c18
        clear c18
        replace H := Option.bind_eq_some_iff.mp H
        obtain ⟨t877, A190, H⟩ := H
        replace H : (some (t877 != (-1))) = some r := H
        have A19 := Aside0.mk A190
        clear A190
        obtain rfl := Option.some.inj H
        go_enter Try.func71, Try.ntmps71
        go_wp2_with (first | ((with_reducible refine gate_dst (N := 6) rfl ?_); refine box_event ?hg (N := 6) ?hd (cs := #[.int .i64 a2_0, .int .i64 a2_1, .int .i64 a2_2, .slice A2_3 l2_3.length c2_3]) (t := 109) ?hr ?_; (case hd => rfl); (case hg => rfl); (case hr => first | (go_simp; done) | (go_simp; rfl)); intro gb874 hg w20 hbox hb; have n0_ := Aside0.mk (below_step (bb HB.out) hb); have n1_ := Aside0.mk (hbox); have n2_ := Aside0.mk ((by rw [hg]; exact (below_size (bb HB.out)) : w.heap.size ≤ gb874)); have n3_ := Aside0.mk ((by rw [hg]; exact (below_size (bb HB.out)) : w.heap.size ≤ gb874)); clear HB; have HB := n0_; have BK874 := n1_; have GW874 := n2_; have GE874 := n3_; clear n0_ n1_ n2_ n3_; clear hb hbox hg) | ((with_reducible refine gate_dst (N := 7) rfl ?_); refine box_event ?hg (N := 7) ?hd (cs := #[.int .i64 a3_0, .int .i64 a3_1, .int .i64 a3_2, .int .i64 a3_3, .int .i64 a3_4, .int .i64 a3_5]) (t := 111) ?hr ?_; (case hd => rfl); (case hg => rfl); (case hr => first | (go_simp; done) | (go_simp; rfl)); intro gb875 hg w21 hbox hb; have n0_ := Aside0.mk (blk_below (rb BK874.out) hb); have n1_ := Aside0.mk (below_step (bb HB.out) hb); have n2_ := Aside0.mk (hbox); have n3_ := Aside0.mk ((by rw [hg]; exact (below_size (bb HB.out)) : w.heap.size ≤ gb875)); have n4_ := Aside0.mk ((by rw [hg]; exact (below_size (bb HB.out)) : w.heap.size ≤ gb875)); have n5_ := Aside0.mk ((by rw [hg]; exact Nat.ne_of_lt (blk_lt (g := gb874) (o := .cells #[.int .i64 a2_0, .int .i64 a2_1, .int .i64 a2_2, .slice A2_3 l2_3.length c2_3] 109 (0, 0)) (rb BK874.out)) : gb874 ≠ gb875)); have n6_ := Aside0.mk ((by rw [hg]; exact Nat.ne_of_gt (blk_lt (g := gb874) (o := .cells #[.int .i64 a2_0, .int .i64 a2_1, .int .i64 a2_2, .slice A2_3 l2_3.length c2_3] 109 (0, 0)) (rb BK874.out)) : gb875 ≠ gb874)); clear BK874; clear HB; have BK874 := n0_; have HB := n1_; have BK875 := n2_; have GW875 := n3_; have GE875 := n4_; have NB874_875 := n5_; have NB875_874 := n6_; clear n0_ n1_ n2_ n3_ n4_ n5_ n6_; clear hb hbox hg; have hnb22 := NB874_875.out; have hnc22 := NB875_874.out; have hcz23_0 := cz BK874.out 0 (.int .i64 a2_0); have hcz23_1 := cz BK874.out 1 (.int .i64 a2_1); have hcz23_2 := cz BK874.out 2 (.int .i64 a2_2); have hcz23_3 := cz BK874.out 3 (.slice A2_3 l2_3.length c2_3); have hfz23_0 := blk_frozen BK874.out 0; have hfz23_1 := blk_frozen BK874.out 1; have hfz23_2 := blk_frozen BK874.out 2; have hfz23_3 := blk_frozen BK874.out 3; have hcz24_0 := cz BK875.out 0 (.int .i64 a3_0); have hcz24_1 := cz BK875.out 1 (.int .i64 a3_1); have hcz24_2 := cz BK875.out 2 (.int .i64 a3_2); have hcz24_3 := cz BK875.out 3 (.int .i64 a3_3); have hcz24_4 := cz BK875.out 4 (.int .i64 a3_4); have hcz24_5 := cz BK875.out 5 (.int .i64 a3_5); have hfz24_0 := blk_frozen BK875.out 0; have hfz24_1 := blk_frozen BK875.out 1; have hfz24_2 := blk_frozen BK875.out 2; have hfz24_3 := blk_frozen BK875.out 3; have hfz24_4 := blk_frozen BK875.out 4; have hfz24_5 := blk_frozen BK875.out 5) | ((with_reducible refine gate_callee (f := 152) rfl ?_); refine gm (some 37) Try.func152 #[.slice A1 l1.length c1, .int .i64 2, .int .i64 a3_0, .int .i64 a3_1, .int .i64 a3_5, .int .i64 a2_2] ?_; (with_reducible refine (impl_FindFact.calls _ _ l1 2 a3_0 a3_1 a3_5 a2_2 t877 _ ?side1 ?side2 A19.out).mono ?_); (case side1 => repeat (first | exact (Kd.C_below HR1.out HB.out) | (with_reducible refine Kd.C_alloc ?_ _) | (with_reducible refine Kd.C_drewN ?_ _) | (with_reducible refine Kd.C_drew ?_))); (case side2 => exact HC1.out); rintro e w25 ⟨rfl, hb⟩; refine ⟨_, rfl, ?_⟩; have n0_ := Aside0.mk (blk_below (rb BK874.out) hb); have n1_ := Aside0.mk (blk_below (rb BK875.out) hb); have n2_ := Aside0.mk (below_step (bb HB.out) hb); clear BK874; clear BK875; clear HB; have BK874 := n0_; have BK875 := n1_; have HB := n2_; clear n0_ n1_ n2_; (try clear hb); (try clear hb2); (try clear hk); (try clear hi)))
        go_ret
        exact ⟨by first | rfl | (simp [errW_none, errW_some] <;> rfl) | (simp [*, errW_none, errW_some] <;> rfl), bb HB.out⟩
      · rw [if_neg c18] at H
        have c18b0 : (a2_0 == 3) = false := beq_eq_false_iff_ne.mpr c18
        have c18b1 : (a2_0 != 3) = true := bne_iff_ne.mpr c18
        by_cases c26 : a2_0 = 4
        · rw [if_pos c26] at H
          have c26b0 : (a2_0 == 4) = true := beq_iff_eq.mpr c26
          have c26b1 : (a2_0 != 4) = false := bne_eq_false_iff_eq.mpr c26
          clear c26
          replace H := Option.bind_eq_some_iff.mp H
          obtain ⟨t878, A270, H⟩ := H
          replace H : (some (decide (t878 ≥ a2_1))) = some r := H
          have A27 := Aside0.mk A270
          clear A270
          obtain rfl := Option.some.inj H
          go_enter Try.func71, Try.ntmps71
          try go_wp2_with (first | ((with_reducible refine gate_dst (N := 6) rfl ?_); refine box_event ?hg (N := 6) ?hd (cs := #[.int .i64 a2_0, .int .i64 a2_1, .int .i64 a2_2, .slice A2_3 l2_3.length c2_3]) (t := 109) ?hr ?_; (case hd => rfl); (case hg => rfl); (case hr => first | (go_simp; done) | (go_simp; rfl)); intro gb874 hg w28 hbox hb; have n0_ := Aside0.mk (below_step (bb HB.out) hb); have n1_ := Aside0.mk (hbox); have n2_ := Aside0.mk ((by rw [hg]; exact (below_size (bb HB.out)) : w.heap.size ≤ gb874)); have n3_ := Aside0.mk ((by rw [hg]; exact (below_size (bb HB.out)) : w.heap.size ≤ gb874)); clear HB; have HB := n0_; have BK874 := n1_; have GW874 := n2_; have GE874 := n3_; clear n0_ n1_ n2_ n3_; clear hb hbox hg) | ((with_reducible refine gate_dst (N := 7) rfl ?_); refine box_event ?hg (N := 7) ?hd (cs := #[.int .i64 a3_0, .int .i64 a3_1, .int .i64 a3_2, .int .i64 a3_3, .int .i64 a3_4, .int .i64 a3_5]) (t := 111) ?hr ?_; (case hd => rfl); (case hg => rfl); (case hr => first | (go_simp; done) | (go_simp; rfl)); intro gb875 hg w29 hbox hb; have n0_ := Aside0.mk (blk_below (rb BK874.out) hb); have n1_ := Aside0.mk (below_step (bb HB.out) hb); have n2_ := Aside0.mk (hbox); have n3_ := Aside0.mk ((by rw [hg]; exact (below_size (bb HB.out)) : w.heap.size ≤ gb875)); have n4_ := Aside0.mk ((by rw [hg]; exact (below_size (bb HB.out)) : w.heap.size ≤ gb875)); have n5_ := Aside0.mk ((by rw [hg]; exact Nat.ne_of_lt (blk_lt (g := gb874) (o := .cells #[.int .i64 a2_0, .int .i64 a2_1, .int .i64 a2_2, .slice A2_3 l2_3.length c2_3] 109 (0, 0)) (rb BK874.out)) : gb874 ≠ gb875)); have n6_ := Aside0.mk ((by rw [hg]; exact Nat.ne_of_gt (blk_lt (g := gb874) (o := .cells #[.int .i64 a2_0, .int .i64 a2_1, .int .i64 a2_2, .slice A2_3 l2_3.length c2_3] 109 (0, 0)) (rb BK874.out)) : gb875 ≠ gb874)); clear BK874; clear HB; have BK874 := n0_; have HB := n1_; have BK875 := n2_; have GW875 := n3_; have GE875 := n4_; have NB874_875 := n5_; have NB875_874 := n6_; clear n0_ n1_ n2_ n3_ n4_ n5_ n6_; clear hb hbox hg; have hnb30 := NB874_875.out; have hnc30 := NB875_874.out; have hcz31_0 := cz BK874.out 0 (.int .i64 a2_0); have hcz31_1 := cz BK874.out 1 (.int .i64 a2_1); have hcz31_2 := cz BK874.out 2 (.int .i64 a2_2); have hcz31_3 := cz BK874.out 3 (.slice A2_3 l2_3.length c2_3); have hfz31_0 := blk_frozen BK874.out 0; have hfz31_1 := blk_frozen BK874.out 1; have hfz31_2 := blk_frozen BK874.out 2; have hfz31_3 := blk_frozen BK874.out 3))
          have n0_ := Aside0.mk (blk_drew BK874.out)
          have n1_ := Aside0.mk (blk_drew BK875.out)
          have n2_ := Aside0.mk (below_drew1 HB.out)
          clear BK874
          clear BK875
          clear HB
          have BK874 := n0_
          have BK875 := n1_
          have HB := n2_
          clear n0_ n1_ n2_
          refine start_ (n := 12) (S := fun w' => w'.cell? ⟨gb875, 0, none⟩ = some (.int .i64 a3_0) ∧ w'.cell? ⟨gb875, 1, none⟩ = some (.int .i64 a3_1) ∧ w'.cell? ⟨gb875, 2, none⟩ = some (.int .i64 a3_2) ∧ w'.cell? ⟨gb875, 3, none⟩ = some (.int .i64 a3_3) ∧ w'.cell? ⟨gb875, 4, none⟩ = some (.int .i64 a3_4) ∧ w'.cell? ⟨gb875, 5, none⟩ = some (.int .i64 a3_5) ∧ w'.cell? ⟨gb874, 0, none⟩ = some (.int .i64 a2_0) ∧ w'.cell? ⟨gb874, 1, none⟩ = some (.int .i64 a2_1) ∧ w'.cell? ⟨gb874, 2, none⟩ = some (.int .i64 a2_2) ∧ w'.cell? ⟨gb874, 3, none⟩ = some (.slice A2_3 l2_3.length c2_3)) (ds := []) #[false, false, false, false, false, false, false, false, false, false, false, false] (by kernel_rfl) rfl rfl ⟨(blk_cell BK875.out 0).trans rfl, (blk_cell BK875.out 1).trans rfl, (blk_cell BK875.out 2).trans rfl, (blk_cell BK875.out 3).trans rfl, (blk_cell BK875.out 4).trans rfl, (blk_cell BK875.out 5).trans rfl, (blk_cell BK874.out 0).trans rfl, (blk_cell BK874.out 1).trans rfl, (blk_cell BK874.out 2).trans rfl, (blk_cell BK874.out 3).trans rfl⟩ (fun hHeld => ?_); refine with_tabW impl_LeafHolds.tab9 impl_LeafHolds.bits9 (fun HT_ HW_ => ?_)
          generalize w29.drew = w32 at BK874 BK875 HB hHeld ⊢
          refine pure_ (i := 0) (N := some 41) (v := ?_) (a' := ?_) #[true, false, false, false, false, false, false, false, false, false, false, false] rfl rfl (any_of HT_.out (by kernel_rfl)) (fun _ _ _ h => h) (Or.inl ⟨by rfl, ?_⟩) ?_ ?_
          rotate_left
          · intro w'
            go_simp
            with_reducible rfl
          rotate_left
          · simp only [Act.put, List.setIfInBounds_toArray, List.set_cons_zero, List.set_cons_succ, i64_w, i32_w]
            rfl
          refine pure_ (i := 1) (N := some 42) (v := ?_) (a' := ?_) #[true, true, false, false, false, false, false, false, false, false, false, false] rfl rfl (any_of HT_.out (by kernel_rfl)) (fun _ _ _ h => h) (Or.inl ⟨by rfl, ?_⟩) ?_ ?_
          rotate_left
          · intro w'
            go_simp
            with_reducible rfl
          rotate_left
          · simp only [Act.put, List.setIfInBounds_toArray, List.set_cons_zero, List.set_cons_succ, i64_w, i32_w]
            rfl
          refine pure_ (i := 3) (N := some 44) (v := ?_) (a' := ?_) #[true, true, false, true, false, false, false, false, false, false, false, false] rfl rfl (any_of HT_.out (by kernel_rfl)) (fun _ _ _ h => h) (Or.inl ⟨by rfl, ?_⟩) ?_ ?_
          rotate_left
          · intro w'
            go_simp
            with_reducible rfl
          rotate_left
          · simp only [Act.put, List.setIfInBounds_toArray, List.set_cons_zero, List.set_cons_succ, i64_w, i32_w]
            rfl
          refine pure_ (i := 5) (N := some 46) (v := ?_) (a' := ?_) #[true, true, false, true, false, true, false, false, false, false, false, false] rfl rfl (any_of HT_.out (by kernel_rfl)) (fun _ _ _ h => h) (Or.inl ⟨by rfl, ?_⟩) ?_ ?_
          rotate_left
          · intro w'
            go_simp
            with_reducible rfl
          rotate_left
          · simp only [Act.put, List.setIfInBounds_toArray, List.set_cons_zero, List.set_cons_succ, i64_w, i32_w]
            rfl
          refine pure_ (i := 8) (N := some 49) (v := ?_) (a' := ?_) #[true, true, false, true, false, true, false, false, true, false, false, false] rfl rfl (any_of HT_.out (by kernel_rfl)) (fun _ _ _ h => h) (Or.inl ⟨by rfl, ?_⟩) ?_ ?_
          rotate_left
          · intro w'
            go_simp
            with_reducible rfl
          rotate_left
          · simp only [Act.put, List.setIfInBounds_toArray, List.set_cons_zero, List.set_cons_succ, i64_w, i32_w]
            rfl
          refine take_ (i := 2) (N := some 43) (v := ?_) (a' := ?_) #[true, true, true, true, false, true, false, false, true, false, false, false] rfl rfl (take_ofW HT_.out HW_.out (by kernel_rfl)) (fun _ _ _ h => h) (Or.inl ⟨by rfl, ?_⟩) hHeld ?_ ?_
          rotate_left
          · rintro w' ⟨s0, s1, s2, s3, s4, s5, s6, s7, s8, s9⟩
            go_simp
            with_reducible rfl
          rotate_left
          · simp only [Act.put, List.setIfInBounds_toArray, List.set_cons_zero, List.set_cons_succ, i64_w, i32_w]
            rfl
          refine take_ (i := 4) (N := some 45) (v := ?_) (a' := ?_) #[true, true, true, true, true, true, false, false, true, false, false, false] rfl rfl (take_ofW HT_.out HW_.out (by kernel_rfl)) (fun _ _ _ h => h) (Or.inl ⟨by rfl, ?_⟩) hHeld ?_ ?_
          rotate_left
          · rintro w' ⟨s0, s1, s2, s3, s4, s5, s6, s7, s8, s9⟩
            go_simp
            with_reducible rfl
          rotate_left
          · simp only [Act.put, List.setIfInBounds_toArray, List.set_cons_zero, List.set_cons_succ, i64_w, i32_w]
            rfl
          refine take_ (i := 6) (N := some 47) (v := ?_) (a' := ?_) #[true, true, true, true, true, true, true, false, true, false, false, false] rfl rfl (take_ofW HT_.out HW_.out (by kernel_rfl)) (fun _ _ _ h => h) (Or.inl ⟨by rfl, ?_⟩) hHeld ?_ ?_
          rotate_left
          · rintro w' ⟨s0, s1, s2, s3, s4, s5, s6, s7, s8, s9⟩
            go_simp
            with_reducible rfl
          rotate_left
          · simp only [Act.put, List.setIfInBounds_toArray, List.set_cons_zero, List.set_cons_succ, i64_w, i32_w]
            rfl
          refine take_ (i := 9) (N := some 50) (v := ?_) (a' := ?_) #[true, true, true, true, true, true, true, false, true, true, false, false] rfl rfl (take_ofW HT_.out HW_.out (by kernel_rfl)) (fun _ _ _ h => h) (Or.inl ⟨by rfl, ?_⟩) hHeld ?_ ?_
          rotate_left
          · rintro w' ⟨s0, s1, s2, s3, s4, s5, s6, s7, s8, s9⟩
            go_simp
            with_reducible rfl
          rotate_left
          · simp only [Act.put, List.setIfInBounds_toArray, List.set_cons_zero, List.set_cons_succ, i64_w, i32_w]
            rfl
          refine one_ (i := 7) (N := some 48) #[true, true, true, true, true, true, true, true, true, true, false, false] rfl rfl (one_of HT_.out (by kernel_rfl)) (by decide) (fun K hK => ?_)
          refine goes_ Try.func153 (by kernel_rfl) rfl #[.slice A1 l1.length c1, .int .i64 3, .int .i64 a3_1, .int .i64 a3_5, .int .i64 a2_2] (by rfl) rfl rfl (by (try simp only [List.map_toArray, List.map_cons, List.map_nil]); first | done | rfl | (simp only [List.length_drop, List.length_take]; rfl)) ?_
          with_reducible refine (impl_BestValue.calls k _ _ l1 3 a3_1 a3_5 a2_2 t878 _ ?side1 ?side2 A27.out).mono ?_
          (case side1 => repeat (first | exact (Kd.C_below HR1.out HB.out) | (with_reducible refine Kd.C_alloc ?_ _) | (with_reducible refine Kd.C_drewN ?_ _) | (with_reducible refine Kd.C_drew ?_)))
          (case side2 => exact HC1.out)
          rintro e w33 ⟨rfl, hb⟩
          refine ⟨_, rfl, ?_⟩
          have n0_ := Aside0.mk (blk_below (rb BK874.out) hb)
          have n1_ := Aside0.mk (blk_below (rb BK875.out) hb)
          have n2_ := Aside0.mk (below_step (bb HB.out) hb)
          clear BK874
          clear BK875
          clear HB
          have BK874 := n0_
          have BK875 := n1_
          have HB := n2_
          clear n0_ n1_ n2_
          (try clear hb)
          (try clear hb2)
          (try clear hk)
          (try clear hi)
          refine hK.out _ _ ⟨(blk_cell BK875.out 0).trans rfl, (blk_cell BK875.out 1).trans rfl, (blk_cell BK875.out 2).trans rfl, (blk_cell BK875.out 3).trans rfl, (blk_cell BK875.out 4).trans rfl, (blk_cell BK875.out 5).trans rfl, (blk_cell BK874.out 0).trans rfl, (blk_cell BK874.out 1).trans rfl, (blk_cell BK874.out 2).trans rfl, (blk_cell BK874.out 3).trans rfl⟩ (fun hHeld => ?_)
          clear hK K
          refine norm_ (a' := ?_) ?_ ?_
          rotate_left
          · show Act.put _ (some 48) _ = _
            simp only [Act.put, List.setIfInBounds_toArray, List.set_cons_zero, List.set_cons_succ, i64_w, i32_w]
            rfl
          refine pure_ (i := 10) (N := some 51) (v := ?_) (a' := ?_) #[true, true, true, true, true, true, true, true, true, true, true, false] rfl rfl (any_of HT_.out (by kernel_rfl)) (fun _ _ _ h => h) (Or.inl ⟨by rfl, ?_⟩) ?_ ?_
          rotate_left
          · intro w'
            go_simp
            with_reducible rfl
          rotate_left
          · simp only [Act.put, List.setIfInBounds_toArray, List.set_cons_zero, List.set_cons_succ, i64_w, i32_w]
            rfl
          refine pure_ (i := 11) (N := some 8) (v := ?_) (a' := ?_) #[true, true, true, true, true, true, true, true, true, true, true, true] rfl rfl (any_of HT_.out (by kernel_rfl)) (fun _ _ _ h => h) (Or.inl ⟨by rfl, ?_⟩) ?_ ?_
          rotate_left
          · intro w'
            go_simp
            with_reducible rfl
          rotate_left
          · simp only [Act.put, List.setIfInBounds_toArray, List.set_cons_zero, List.set_cons_succ, i64_w, i32_w]
            rfl
          refine done_ (done_of HT_.out (by kernel_rfl)) ?_
          try go_wp2
          go_ret
          exact ⟨by first | rfl | (simp [errW_none, errW_some] <;> rfl) | (simp [*, errW_none, errW_some] <;> rfl), bb HB.out⟩
        · rw [if_neg c26] at H
          have c26b0 : (a2_0 == 4) = false := beq_eq_false_iff_ne.mpr c26
          have c26b1 : (a2_0 != 4) = true := bne_iff_ne.mpr c26
          by_cases c34 : a2_0 = 5
          · rw [if_pos c34] at H
            have c34b0 : (a2_0 == 5) = true := beq_iff_eq.mpr c34
            have c34b1 : (a2_0 != 5) = false := bne_eq_false_iff_eq.mpr c34
            clear c34
            replace H := Option.bind_eq_some_iff.mp H
            obtain ⟨t879, A350, H⟩ := H
            replace H : (some (decide (t879 ≥ a2_1))) = some r := H
            have A35 := Aside0.mk A350
            clear A350
            obtain rfl := Option.some.inj H
            go_enter Try.func71, Try.ntmps71
            try go_wp2_with (first | ((with_reducible refine gate_dst (N := 6) rfl ?_); refine box_event ?hg (N := 6) ?hd (cs := #[.int .i64 a2_0, .int .i64 a2_1, .int .i64 a2_2, .slice A2_3 l2_3.length c2_3]) (t := 109) ?hr ?_; (case hd => rfl); (case hg => rfl); (case hr => first | (go_simp; done) | (go_simp; rfl)); intro gb874 hg w36 hbox hb; have n0_ := Aside0.mk (below_step (bb HB.out) hb); have n1_ := Aside0.mk (hbox); have n2_ := Aside0.mk ((by rw [hg]; exact (below_size (bb HB.out)) : w.heap.size ≤ gb874)); have n3_ := Aside0.mk ((by rw [hg]; exact (below_size (bb HB.out)) : w.heap.size ≤ gb874)); clear HB; have HB := n0_; have BK874 := n1_; have GW874 := n2_; have GE874 := n3_; clear n0_ n1_ n2_ n3_; clear hb hbox hg) | ((with_reducible refine gate_dst (N := 7) rfl ?_); refine box_event ?hg (N := 7) ?hd (cs := #[.int .i64 a3_0, .int .i64 a3_1, .int .i64 a3_2, .int .i64 a3_3, .int .i64 a3_4, .int .i64 a3_5]) (t := 111) ?hr ?_; (case hd => rfl); (case hg => rfl); (case hr => first | (go_simp; done) | (go_simp; rfl)); intro gb875 hg w37 hbox hb; have n0_ := Aside0.mk (blk_below (rb BK874.out) hb); have n1_ := Aside0.mk (below_step (bb HB.out) hb); have n2_ := Aside0.mk (hbox); have n3_ := Aside0.mk ((by rw [hg]; exact (below_size (bb HB.out)) : w.heap.size ≤ gb875)); have n4_ := Aside0.mk ((by rw [hg]; exact (below_size (bb HB.out)) : w.heap.size ≤ gb875)); have n5_ := Aside0.mk ((by rw [hg]; exact Nat.ne_of_lt (blk_lt (g := gb874) (o := .cells #[.int .i64 a2_0, .int .i64 a2_1, .int .i64 a2_2, .slice A2_3 l2_3.length c2_3] 109 (0, 0)) (rb BK874.out)) : gb874 ≠ gb875)); have n6_ := Aside0.mk ((by rw [hg]; exact Nat.ne_of_gt (blk_lt (g := gb874) (o := .cells #[.int .i64 a2_0, .int .i64 a2_1, .int .i64 a2_2, .slice A2_3 l2_3.length c2_3] 109 (0, 0)) (rb BK874.out)) : gb875 ≠ gb874)); clear BK874; clear HB; have BK874 := n0_; have HB := n1_; have BK875 := n2_; have GW875 := n3_; have GE875 := n4_; have NB874_875 := n5_; have NB875_874 := n6_; clear n0_ n1_ n2_ n3_ n4_ n5_ n6_; clear hb hbox hg; have hnb38 := NB874_875.out; have hnc38 := NB875_874.out; have hcz39_0 := cz BK874.out 0 (.int .i64 a2_0); have hcz39_1 := cz BK874.out 1 (.int .i64 a2_1); have hcz39_2 := cz BK874.out 2 (.int .i64 a2_2); have hcz39_3 := cz BK874.out 3 (.slice A2_3 l2_3.length c2_3); have hfz39_0 := blk_frozen BK874.out 0; have hfz39_1 := blk_frozen BK874.out 1; have hfz39_2 := blk_frozen BK874.out 2; have hfz39_3 := blk_frozen BK874.out 3))
            have n0_ := Aside0.mk (blk_drew BK874.out)
            have n1_ := Aside0.mk (blk_drew BK875.out)
            have n2_ := Aside0.mk (below_drew1 HB.out)
            clear BK874
            clear BK875
            clear HB
            have BK874 := n0_
            have BK875 := n1_
            have HB := n2_
            clear n0_ n1_ n2_
            refine start_ (n := 12) (S := fun w' => w'.cell? ⟨gb875, 0, none⟩ = some (.int .i64 a3_0) ∧ w'.cell? ⟨gb875, 1, none⟩ = some (.int .i64 a3_1) ∧ w'.cell? ⟨gb875, 2, none⟩ = some (.int .i64 a3_2) ∧ w'.cell? ⟨gb875, 3, none⟩ = some (.int .i64 a3_3) ∧ w'.cell? ⟨gb875, 4, none⟩ = some (.int .i64 a3_4) ∧ w'.cell? ⟨gb875, 5, none⟩ = some (.int .i64 a3_5) ∧ w'.cell? ⟨gb874, 0, none⟩ = some (.int .i64 a2_0) ∧ w'.cell? ⟨gb874, 1, none⟩ = some (.int .i64 a2_1) ∧ w'.cell? ⟨gb874, 2, none⟩ = some (.int .i64 a2_2) ∧ w'.cell? ⟨gb874, 3, none⟩ = some (.slice A2_3 l2_3.length c2_3)) (ds := []) #[false, false, false, false, false, false, false, false, false, false, false, false] (by kernel_rfl) rfl rfl ⟨(blk_cell BK875.out 0).trans rfl, (blk_cell BK875.out 1).trans rfl, (blk_cell BK875.out 2).trans rfl, (blk_cell BK875.out 3).trans rfl, (blk_cell BK875.out 4).trans rfl, (blk_cell BK875.out 5).trans rfl, (blk_cell BK874.out 0).trans rfl, (blk_cell BK874.out 1).trans rfl, (blk_cell BK874.out 2).trans rfl, (blk_cell BK874.out 3).trans rfl⟩ (fun hHeld => ?_); refine with_tabW impl_LeafHolds.tab11 impl_LeafHolds.bits11 (fun HT_ HW_ => ?_)
            generalize w37.drew = w40 at BK874 BK875 HB hHeld ⊢
            refine pure_ (i := 0) (N := some 54) (v := ?_) (a' := ?_) #[true, false, false, false, false, false, false, false, false, false, false, false] rfl rfl (any_of HT_.out (by kernel_rfl)) (fun _ _ _ h => h) (Or.inl ⟨by rfl, ?_⟩) ?_ ?_
            rotate_left
            · intro w'
              go_simp
              with_reducible rfl
            rotate_left
            · simp only [Act.put, List.setIfInBounds_toArray, List.set_cons_zero, List.set_cons_succ, i64_w, i32_w]
              rfl
            refine pure_ (i := 1) (N := some 55) (v := ?_) (a' := ?_) #[true, true, false, false, false, false, false, false, false, false, false, false] rfl rfl (any_of HT_.out (by kernel_rfl)) (fun _ _ _ h => h) (Or.inl ⟨by rfl, ?_⟩) ?_ ?_
            rotate_left
            · intro w'
              go_simp
              with_reducible rfl
            rotate_left
            · simp only [Act.put, List.setIfInBounds_toArray, List.set_cons_zero, List.set_cons_succ, i64_w, i32_w]
              rfl
            refine pure_ (i := 3) (N := some 57) (v := ?_) (a' := ?_) #[true, true, false, true, false, false, false, false, false, false, false, false] rfl rfl (any_of HT_.out (by kernel_rfl)) (fun _ _ _ h => h) (Or.inl ⟨by rfl, ?_⟩) ?_ ?_
            rotate_left
            · intro w'
              go_simp
              with_reducible rfl
            rotate_left
            · simp only [Act.put, List.setIfInBounds_toArray, List.set_cons_zero, List.set_cons_succ, i64_w, i32_w]
              rfl
            refine pure_ (i := 5) (N := some 59) (v := ?_) (a' := ?_) #[true, true, false, true, false, true, false, false, false, false, false, false] rfl rfl (any_of HT_.out (by kernel_rfl)) (fun _ _ _ h => h) (Or.inl ⟨by rfl, ?_⟩) ?_ ?_
            rotate_left
            · intro w'
              go_simp
              with_reducible rfl
            rotate_left
            · simp only [Act.put, List.setIfInBounds_toArray, List.set_cons_zero, List.set_cons_succ, i64_w, i32_w]
              rfl
            refine pure_ (i := 8) (N := some 62) (v := ?_) (a' := ?_) #[true, true, false, true, false, true, false, false, true, false, false, false] rfl rfl (any_of HT_.out (by kernel_rfl)) (fun _ _ _ h => h) (Or.inl ⟨by rfl, ?_⟩) ?_ ?_
            rotate_left
            · intro w'
              go_simp
              with_reducible rfl
            rotate_left
            · simp only [Act.put, List.setIfInBounds_toArray, List.set_cons_zero, List.set_cons_succ, i64_w, i32_w]
              rfl
            refine take_ (i := 2) (N := some 56) (v := ?_) (a' := ?_) #[true, true, true, true, false, true, false, false, true, false, false, false] rfl rfl (take_ofW HT_.out HW_.out (by kernel_rfl)) (fun _ _ _ h => h) (Or.inl ⟨by rfl, ?_⟩) hHeld ?_ ?_
            rotate_left
            · rintro w' ⟨s0, s1, s2, s3, s4, s5, s6, s7, s8, s9⟩
              go_simp
              with_reducible rfl
            rotate_left
            · simp only [Act.put, List.setIfInBounds_toArray, List.set_cons_zero, List.set_cons_succ, i64_w, i32_w]
              rfl
            refine take_ (i := 4) (N := some 58) (v := ?_) (a' := ?_) #[true, true, true, true, true, true, false, false, true, false, false, false] rfl rfl (take_ofW HT_.out HW_.out (by kernel_rfl)) (fun _ _ _ h => h) (Or.inl ⟨by rfl, ?_⟩) hHeld ?_ ?_
            rotate_left
            · rintro w' ⟨s0, s1, s2, s3, s4, s5, s6, s7, s8, s9⟩
              go_simp
              with_reducible rfl
            rotate_left
            · simp only [Act.put, List.setIfInBounds_toArray, List.set_cons_zero, List.set_cons_succ, i64_w, i32_w]
              rfl
            refine take_ (i := 6) (N := some 60) (v := ?_) (a' := ?_) #[true, true, true, true, true, true, true, false, true, false, false, false] rfl rfl (take_ofW HT_.out HW_.out (by kernel_rfl)) (fun _ _ _ h => h) (Or.inl ⟨by rfl, ?_⟩) hHeld ?_ ?_
            rotate_left
            · rintro w' ⟨s0, s1, s2, s3, s4, s5, s6, s7, s8, s9⟩
              go_simp
              with_reducible rfl
            rotate_left
            · simp only [Act.put, List.setIfInBounds_toArray, List.set_cons_zero, List.set_cons_succ, i64_w, i32_w]
              rfl
            refine take_ (i := 9) (N := some 63) (v := ?_) (a' := ?_) #[true, true, true, true, true, true, true, false, true, true, false, false] rfl rfl (take_ofW HT_.out HW_.out (by kernel_rfl)) (fun _ _ _ h => h) (Or.inl ⟨by rfl, ?_⟩) hHeld ?_ ?_
            rotate_left
            · rintro w' ⟨s0, s1, s2, s3, s4, s5, s6, s7, s8, s9⟩
              go_simp
              with_reducible rfl
            rotate_left
            · simp only [Act.put, List.setIfInBounds_toArray, List.set_cons_zero, List.set_cons_succ, i64_w, i32_w]
              rfl
            refine one_ (i := 7) (N := some 61) #[true, true, true, true, true, true, true, true, true, true, false, false] rfl rfl (one_of HT_.out (by kernel_rfl)) (by decide) (fun K hK => ?_)
            refine goes_ Try.func153 (by kernel_rfl) rfl #[.slice A1 l1.length c1, .int .i64 4, .int .i64 a3_2, .int .i64 a3_5, .int .i64 a2_2] (by rfl) rfl rfl (by (try simp only [List.map_toArray, List.map_cons, List.map_nil]); first | done | rfl | (simp only [List.length_drop, List.length_take]; rfl)) ?_
            with_reducible refine (impl_BestValue.calls k _ _ l1 4 a3_2 a3_5 a2_2 t879 _ ?side1 ?side2 A35.out).mono ?_
            (case side1 => repeat (first | exact (Kd.C_below HR1.out HB.out) | (with_reducible refine Kd.C_alloc ?_ _) | (with_reducible refine Kd.C_drewN ?_ _) | (with_reducible refine Kd.C_drew ?_)))
            (case side2 => exact HC1.out)
            rintro e w41 ⟨rfl, hb⟩
            refine ⟨_, rfl, ?_⟩
            have n0_ := Aside0.mk (blk_below (rb BK874.out) hb)
            have n1_ := Aside0.mk (blk_below (rb BK875.out) hb)
            have n2_ := Aside0.mk (below_step (bb HB.out) hb)
            clear BK874
            clear BK875
            clear HB
            have BK874 := n0_
            have BK875 := n1_
            have HB := n2_
            clear n0_ n1_ n2_
            (try clear hb)
            (try clear hb2)
            (try clear hk)
            (try clear hi)
            refine hK.out _ _ ⟨(blk_cell BK875.out 0).trans rfl, (blk_cell BK875.out 1).trans rfl, (blk_cell BK875.out 2).trans rfl, (blk_cell BK875.out 3).trans rfl, (blk_cell BK875.out 4).trans rfl, (blk_cell BK875.out 5).trans rfl, (blk_cell BK874.out 0).trans rfl, (blk_cell BK874.out 1).trans rfl, (blk_cell BK874.out 2).trans rfl, (blk_cell BK874.out 3).trans rfl⟩ (fun hHeld => ?_)
            clear hK K
            refine norm_ (a' := ?_) ?_ ?_
            rotate_left
            · show Act.put _ (some 61) _ = _
              simp only [Act.put, List.setIfInBounds_toArray, List.set_cons_zero, List.set_cons_succ, i64_w, i32_w]
              rfl
            refine pure_ (i := 10) (N := some 64) (v := ?_) (a' := ?_) #[true, true, true, true, true, true, true, true, true, true, true, false] rfl rfl (any_of HT_.out (by kernel_rfl)) (fun _ _ _ h => h) (Or.inl ⟨by rfl, ?_⟩) ?_ ?_
            rotate_left
            · intro w'
              go_simp
              with_reducible rfl
            rotate_left
            · simp only [Act.put, List.setIfInBounds_toArray, List.set_cons_zero, List.set_cons_succ, i64_w, i32_w]
              rfl
            refine pure_ (i := 11) (N := some 8) (v := ?_) (a' := ?_) #[true, true, true, true, true, true, true, true, true, true, true, true] rfl rfl (any_of HT_.out (by kernel_rfl)) (fun _ _ _ h => h) (Or.inl ⟨by rfl, ?_⟩) ?_ ?_
            rotate_left
            · intro w'
              go_simp
              with_reducible rfl
            rotate_left
            · simp only [Act.put, List.setIfInBounds_toArray, List.set_cons_zero, List.set_cons_succ, i64_w, i32_w]
              rfl
            refine done_ (done_of HT_.out (by kernel_rfl)) ?_
            try go_wp2
            go_ret
            exact ⟨by first | rfl | (simp [errW_none, errW_some] <;> rfl) | (simp [*, errW_none, errW_some] <;> rfl), bb HB.out⟩
          · rw [if_neg c34] at H
            have c34b0 : (a2_0 == 5) = false := beq_eq_false_iff_ne.mpr c34
            have c34b1 : (a2_0 != 5) = true := bne_iff_ne.mpr c34
            by_cases c42 : a2_0 = 6
            · rw [if_pos c42] at H
              have c42b0 : (a2_0 == 6) = true := beq_iff_eq.mpr c42
              have c42b1 : (a2_0 != 6) = false := bne_eq_false_iff_eq.mpr c42
              clear c42
              obtain rfl := Option.some.inj H
              go_enter Try.func71, Try.ntmps71
              go_wp2_with (first | ((with_reducible refine gate_dst (N := 6) rfl ?_); refine box_event ?hg (N := 6) ?hd (cs := #[.int .i64 a2_0, .int .i64 a2_1, .int .i64 a2_2, .slice A2_3 l2_3.length c2_3]) (t := 109) ?hr ?_; (case hd => rfl); (case hg => rfl); (case hr => first | (go_simp; done) | (go_simp; rfl)); intro gb874 hg w43 hbox hb; have n0_ := Aside0.mk (below_step (bb HB.out) hb); have n1_ := Aside0.mk (hbox); have n2_ := Aside0.mk ((by rw [hg]; exact (below_size (bb HB.out)) : w.heap.size ≤ gb874)); have n3_ := Aside0.mk ((by rw [hg]; exact (below_size (bb HB.out)) : w.heap.size ≤ gb874)); clear HB; have HB := n0_; have BK874 := n1_; have GW874 := n2_; have GE874 := n3_; clear n0_ n1_ n2_ n3_; clear hb hbox hg) | ((with_reducible refine gate_dst (N := 7) rfl ?_); refine box_event ?hg (N := 7) ?hd (cs := #[.int .i64 a3_0, .int .i64 a3_1, .int .i64 a3_2, .int .i64 a3_3, .int .i64 a3_4, .int .i64 a3_5]) (t := 111) ?hr ?_; (case hd => rfl); (case hg => rfl); (case hr => first | (go_simp; done) | (go_simp; rfl)); intro gb875 hg w44 hbox hb; have n0_ := Aside0.mk (blk_below (rb BK874.out) hb); have n1_ := Aside0.mk (below_step (bb HB.out) hb); have n2_ := Aside0.mk (hbox); have n3_ := Aside0.mk ((by rw [hg]; exact (below_size (bb HB.out)) : w.heap.size ≤ gb875)); have n4_ := Aside0.mk ((by rw [hg]; exact (below_size (bb HB.out)) : w.heap.size ≤ gb875)); have n5_ := Aside0.mk ((by rw [hg]; exact Nat.ne_of_lt (blk_lt (g := gb874) (o := .cells #[.int .i64 a2_0, .int .i64 a2_1, .int .i64 a2_2, .slice A2_3 l2_3.length c2_3] 109 (0, 0)) (rb BK874.out)) : gb874 ≠ gb875)); have n6_ := Aside0.mk ((by rw [hg]; exact Nat.ne_of_gt (blk_lt (g := gb874) (o := .cells #[.int .i64 a2_0, .int .i64 a2_1, .int .i64 a2_2, .slice A2_3 l2_3.length c2_3] 109 (0, 0)) (rb BK874.out)) : gb875 ≠ gb874)); clear BK874; clear HB; have BK874 := n0_; have HB := n1_; have BK875 := n2_; have GW875 := n3_; have GE875 := n4_; have NB874_875 := n5_; have NB875_874 := n6_; clear n0_ n1_ n2_ n3_ n4_ n5_ n6_; clear hb hbox hg; have hnb45 := NB874_875.out; have hnc45 := NB875_874.out; have hcz46_0 := cz BK874.out 0 (.int .i64 a2_0); have hcz46_1 := cz BK874.out 1 (.int .i64 a2_1); have hcz46_2 := cz BK874.out 2 (.int .i64 a2_2); have hcz46_3 := cz BK874.out 3 (.slice A2_3 l2_3.length c2_3); have hfz46_0 := blk_frozen BK874.out 0; have hfz46_1 := blk_frozen BK874.out 1; have hfz46_2 := blk_frozen BK874.out 2; have hfz46_3 := blk_frozen BK874.out 3; have hcz47_0 := cz BK875.out 0 (.int .i64 a3_0); have hcz47_1 := cz BK875.out 1 (.int .i64 a3_1); have hcz47_2 := cz BK875.out 2 (.int .i64 a3_2); have hcz47_3 := cz BK875.out 3 (.int .i64 a3_3); have hcz47_4 := cz BK875.out 4 (.int .i64 a3_4); have hcz47_5 := cz BK875.out 5 (.int .i64 a3_5); have hfz47_0 := blk_frozen BK875.out 0; have hfz47_1 := blk_frozen BK875.out 1; have hfz47_2 := blk_frozen BK875.out 2; have hfz47_3 := blk_frozen BK875.out 3; have hfz47_4 := blk_frozen BK875.out 4; have hfz47_5 := blk_frozen BK875.out 5))
              go_ret
              exact ⟨by first | rfl | (simp [errW_none, errW_some] <;> rfl) | (simp [*, errW_none, errW_some] <;> rfl), bb HB.out⟩
            · rw [if_neg c42] at H
              have c42b0 : (a2_0 == 6) = false := beq_eq_false_iff_ne.mpr c42
              have c42b1 : (a2_0 != 6) = true := bne_iff_ne.mpr c42
              obtain rfl := Option.some.inj H
              go_enter Try.func71, Try.ntmps71
              go_wp2_with (first | ((with_reducible refine gate_dst (N := 6) rfl ?_); refine box_event ?hg (N := 6) ?hd (cs := #[.int .i64 a2_0, .int .i64 a2_1, .int .i64 a2_2, .slice A2_3 l2_3.length c2_3]) (t := 109) ?hr ?_; (case hd => rfl); (case hg => rfl); (case hr => first | (go_simp; done) | (go_simp; rfl)); intro gb874 hg w48 hbox hb; have n0_ := Aside0.mk (below_step (bb HB.out) hb); have n1_ := Aside0.mk (hbox); have n2_ := Aside0.mk ((by rw [hg]; exact (below_size (bb HB.out)) : w.heap.size ≤ gb874)); have n3_ := Aside0.mk ((by rw [hg]; exact (below_size (bb HB.out)) : w.heap.size ≤ gb874)); clear HB; have HB := n0_; have BK874 := n1_; have GW874 := n2_; have GE874 := n3_; clear n0_ n1_ n2_ n3_; clear hb hbox hg) | ((with_reducible refine gate_dst (N := 7) rfl ?_); refine box_event ?hg (N := 7) ?hd (cs := #[.int .i64 a3_0, .int .i64 a3_1, .int .i64 a3_2, .int .i64 a3_3, .int .i64 a3_4, .int .i64 a3_5]) (t := 111) ?hr ?_; (case hd => rfl); (case hg => rfl); (case hr => first | (go_simp; done) | (go_simp; rfl)); intro gb875 hg w49 hbox hb; have n0_ := Aside0.mk (blk_below (rb BK874.out) hb); have n1_ := Aside0.mk (below_step (bb HB.out) hb); have n2_ := Aside0.mk (hbox); have n3_ := Aside0.mk ((by rw [hg]; exact (below_size (bb HB.out)) : w.heap.size ≤ gb875)); have n4_ := Aside0.mk ((by rw [hg]; exact (below_size (bb HB.out)) : w.heap.size ≤ gb875)); have n5_ := Aside0.mk ((by rw [hg]; exact Nat.ne_of_lt (blk_lt (g := gb874) (o := .cells #[.int .i64 a2_0, .int .i64 a2_1, .int .i64 a2_2, .slice A2_3 l2_3.length c2_3] 109 (0, 0)) (rb BK874.out)) : gb874 ≠ gb875)); have n6_ := Aside0.mk ((by rw [hg]; exact Nat.ne_of_gt (blk_lt (g := gb874) (o := .cells #[.int .i64 a2_0, .int .i64 a2_1, .int .i64 a2_2, .slice A2_3 l2_3.length c2_3] 109 (0, 0)) (rb BK874.out)) : gb875 ≠ gb874)); clear BK874; clear HB; have BK874 := n0_; have HB := n1_; have BK875 := n2_; have GW875 := n3_; have GE875 := n4_; have NB874_875 := n5_; have NB875_874 := n6_; clear n0_ n1_ n2_ n3_ n4_ n5_ n6_; clear hb hbox hg; have hnb50 := NB874_875.out; have hnc50 := NB875_874.out; have hcz51_0 := cz BK874.out 0 (.int .i64 a2_0); have hcz51_1 := cz BK874.out 1 (.int .i64 a2_1); have hcz51_2 := cz BK874.out 2 (.int .i64 a2_2); have hcz51_3 := cz BK874.out 3 (.slice A2_3 l2_3.length c2_3); have hfz51_0 := blk_frozen BK874.out 0; have hfz51_1 := blk_frozen BK874.out 1; have hfz51_2 := blk_frozen BK874.out 2; have hfz51_3 := blk_frozen BK874.out 3))
              go_ret
              exact ⟨by first | rfl | (simp [errW_none, errW_some] <;> rfl) | (simp [*, errW_none, errW_some] <;> rfl), bb HB.out⟩
def laws_eqFact.f (a0_0 : Int) (a0_1 : Int) (a0_2 : Int) (a0_3 : Int) (a0_4 : Int) (a0_5 : Int) (a1_0 : Int) (a1_1 : Int) (a1_2 : Int) (a1_3 : Int) (a1_4 : Int) (a1_5 : Int) : Option (Bool) := if a0_0 = a1_0 then (if a0_1 = a1_1 then (if a0_2 = a1_2 then (if a0_3 = a1_3 then (if a0_4 = a1_4 then (if a0_5 = a1_5 then (some true) else (some false)) else (some false)) else (some false)) else (some false)) else (some false)) else (some false)
set_option maxHeartbeats 8000000 in
set_option maxRecDepth 100000 in
theorem laws_eqFact.calls (a0_0 : Int) (a0_1 : Int) (a0_2 : Int) (a0_3 : Int) (a0_4 : Int) (a0_5 : Int) (a1_0 : Int) (a1_1 : Int) (a1_2 : Int) (a1_3 : Int) (a1_4 : Int) (a1_5 : Int) (r : Bool) (w : World) (h : laws_eqFact.f a0_0 a0_1 a0_2 a0_3 a0_4 a0_5 a1_0 a1_1 a1_2 a1_3 a1_4 a1_5 = some r) :
    Calls Try.prog 154 #[.agg #[.int .i64 a0_0, .int .i64 a0_1, .int .i64 a0_2, .int .i64 a0_3, .int .i64 a0_4, .int .i64 a0_5], .agg #[.int .i64 a1_0, .int .i64 a1_1, .int .i64 a1_2, .int .i64 a1_3, .int .i64 a1_4, .int .i64 a1_5]] w fun e w' => e = .returned (.bool r) ∧ Below w.heap.size w w' := by
  have hu119 := Try.underlying119
  have HB := Aside0.mk (Below.refl w.heap.size w)
  have H : (if a0_0 = a1_0 then (if a0_1 = a1_1 then (if a0_2 = a1_2 then (if a0_3 = a1_3 then (if a0_4 = a1_4 then (if a0_5 = a1_5 then (some true) else (some false)) else (some false)) else (some false)) else (some false)) else (some false)) else (some false)) = some r := h
  clear h
  by_cases c3 : a0_0 = a1_0
  · rw [if_pos c3] at H
    have c3b0 : (a0_0 == a1_0) = true := beq_iff_eq.mpr c3
    have c3b1 : (a0_0 != a1_0) = false := bne_eq_false_iff_eq.mpr c3
    clear c3
    by_cases c4 : a0_1 = a1_1
    · rw [if_pos c4] at H
      have c4b0 : (a0_1 == a1_1) = true := beq_iff_eq.mpr c4
      have c4b1 : (a0_1 != a1_1) = false := bne_eq_false_iff_eq.mpr c4
      clear c4
      by_cases c5 : a0_2 = a1_2
      · rw [if_pos c5] at H
        have c5b0 : (a0_2 == a1_2) = true := beq_iff_eq.mpr c5
        have c5b1 : (a0_2 != a1_2) = false := bne_eq_false_iff_eq.mpr c5
        clear c5
        by_cases c6 : a0_3 = a1_3
        · rw [if_pos c6] at H
          have c6b0 : (a0_3 == a1_3) = true := beq_iff_eq.mpr c6
          have c6b1 : (a0_3 != a1_3) = false := bne_eq_false_iff_eq.mpr c6
          clear c6
          by_cases c7 : a0_4 = a1_4
          · rw [if_pos c7] at H
            have c7b0 : (a0_4 == a1_4) = true := beq_iff_eq.mpr c7
            have c7b1 : (a0_4 != a1_4) = false := bne_eq_false_iff_eq.mpr c7
            clear c7
            by_cases c8 : a0_5 = a1_5
            · rw [if_pos c8] at H
              have c8b0 : (a0_5 == a1_5) = true := beq_iff_eq.mpr c8
              have c8b1 : (a0_5 != a1_5) = false := bne_eq_false_iff_eq.mpr c8
              clear c8
              obtain rfl := Option.some.inj H
              go_enter Try.func154, Try.ntmps154
              go_wp2_with (first | ((with_reducible refine gate_dst (N := 2) rfl ?_); refine box_event ?hg (N := 2) ?hd (cs := #[.int .i64 a0_0, .int .i64 a0_1, .int .i64 a0_2, .int .i64 a0_3, .int .i64 a0_4, .int .i64 a0_5]) (t := 119) ?hr ?_; (case hd => rfl); (case hg => rfl); (case hr => first | (go_simp; done) | (go_simp; rfl)); intro gb880 hg w9 hbox hb; have n0_ := Aside0.mk (below_step (bb HB.out) hb); have n1_ := Aside0.mk (hbox); have n2_ := Aside0.mk ((by rw [hg]; exact (below_size (bb HB.out)) : w.heap.size ≤ gb880)); have n3_ := Aside0.mk ((by rw [hg]; exact (below_size (bb HB.out)) : w.heap.size ≤ gb880)); clear HB; have HB := n0_; have BK880 := n1_; have GW880 := n2_; have GE880 := n3_; clear n0_ n1_ n2_ n3_; clear hb hbox hg) | ((with_reducible refine gate_dst (N := 3) rfl ?_); refine box_event ?hg (N := 3) ?hd (cs := #[.int .i64 a1_0, .int .i64 a1_1, .int .i64 a1_2, .int .i64 a1_3, .int .i64 a1_4, .int .i64 a1_5]) (t := 119) ?hr ?_; (case hd => rfl); (case hg => rfl); (case hr => first | (go_simp; done) | (go_simp; rfl)); intro gb881 hg w10 hbox hb; have n0_ := Aside0.mk (blk_below (rb BK880.out) hb); have n1_ := Aside0.mk (below_step (bb HB.out) hb); have n2_ := Aside0.mk (hbox); have n3_ := Aside0.mk ((by rw [hg]; exact (below_size (bb HB.out)) : w.heap.size ≤ gb881)); have n4_ := Aside0.mk ((by rw [hg]; exact (below_size (bb HB.out)) : w.heap.size ≤ gb881)); have n5_ := Aside0.mk ((by rw [hg]; exact Nat.ne_of_lt (blk_lt (g := gb880) (o := .cells #[.int .i64 a0_0, .int .i64 a0_1, .int .i64 a0_2, .int .i64 a0_3, .int .i64 a0_4, .int .i64 a0_5] 119 (0, 0)) (rb BK880.out)) : gb880 ≠ gb881)); have n6_ := Aside0.mk ((by rw [hg]; exact Nat.ne_of_gt (blk_lt (g := gb880) (o := .cells #[.int .i64 a0_0, .int .i64 a0_1, .int .i64 a0_2, .int .i64 a0_3, .int .i64 a0_4, .int .i64 a0_5] 119 (0, 0)) (rb BK880.out)) : gb881 ≠ gb880)); clear BK880; clear HB; have BK880 := n0_; have HB := n1_; have BK881 := n2_; have GW881 := n3_; have GE881 := n4_; have NB880_881 := n5_; have NB881_880 := n6_; clear n0_ n1_ n2_ n3_ n4_ n5_ n6_; clear hb hbox hg; have hnb11 := NB880_881.out; have hnc11 := NB881_880.out; have hcz12_0 := cz BK880.out 0 (.int .i64 a0_0); have hcz12_1 := cz BK880.out 1 (.int .i64 a0_1); have hcz12_2 := cz BK880.out 2 (.int .i64 a0_2); have hcz12_3 := cz BK880.out 3 (.int .i64 a0_3); have hcz12_4 := cz BK880.out 4 (.int .i64 a0_4); have hcz12_5 := cz BK880.out 5 (.int .i64 a0_5); have hfz12_0 := blk_frozen BK880.out 0; have hfz12_1 := blk_frozen BK880.out 1; have hfz12_2 := blk_frozen BK880.out 2; have hfz12_3 := blk_frozen BK880.out 3; have hfz12_4 := blk_frozen BK880.out 4; have hfz12_5 := blk_frozen BK880.out 5; have hcz13_0 := cz BK881.out 0 (.int .i64 a1_0); have hcz13_1 := cz BK881.out 1 (.int .i64 a1_1); have hcz13_2 := cz BK881.out 2 (.int .i64 a1_2); have hcz13_3 := cz BK881.out 3 (.int .i64 a1_3); have hcz13_4 := cz BK881.out 4 (.int .i64 a1_4); have hcz13_5 := cz BK881.out 5 (.int .i64 a1_5); have hfz13_0 := blk_frozen BK881.out 0; have hfz13_1 := blk_frozen BK881.out 1; have hfz13_2 := blk_frozen BK881.out 2; have hfz13_3 := blk_frozen BK881.out 3; have hfz13_4 := blk_frozen BK881.out 4; have hfz13_5 := blk_frozen BK881.out 5))
              go_ret
              exact ⟨by first | rfl | (simp [errW_none, errW_some] <;> rfl) | (simp [*, errW_none, errW_some] <;> rfl), bb HB.out⟩
            · rw [if_neg c8] at H
              have c8b0 : (a0_5 == a1_5) = false := beq_eq_false_iff_ne.mpr c8
              have c8b1 : (a0_5 != a1_5) = true := bne_iff_ne.mpr c8
              obtain rfl := Option.some.inj H
              go_enter Try.func154, Try.ntmps154
              go_wp2_with (first | ((with_reducible refine gate_dst (N := 2) rfl ?_); refine box_event ?hg (N := 2) ?hd (cs := #[.int .i64 a0_0, .int .i64 a0_1, .int .i64 a0_2, .int .i64 a0_3, .int .i64 a0_4, .int .i64 a0_5]) (t := 119) ?hr ?_; (case hd => rfl); (case hg => rfl); (case hr => first | (go_simp; done) | (go_simp; rfl)); intro gb880 hg w14 hbox hb; have n0_ := Aside0.mk (below_step (bb HB.out) hb); have n1_ := Aside0.mk (hbox); have n2_ := Aside0.mk ((by rw [hg]; exact (below_size (bb HB.out)) : w.heap.size ≤ gb880)); have n3_ := Aside0.mk ((by rw [hg]; exact (below_size (bb HB.out)) : w.heap.size ≤ gb880)); clear HB; have HB := n0_; have BK880 := n1_; have GW880 := n2_; have GE880 := n3_; clear n0_ n1_ n2_ n3_; clear hb hbox hg) | ((with_reducible refine gate_dst (N := 3) rfl ?_); refine box_event ?hg (N := 3) ?hd (cs := #[.int .i64 a1_0, .int .i64 a1_1, .int .i64 a1_2, .int .i64 a1_3, .int .i64 a1_4, .int .i64 a1_5]) (t := 119) ?hr ?_; (case hd => rfl); (case hg => rfl); (case hr => first | (go_simp; done) | (go_simp; rfl)); intro gb881 hg w15 hbox hb; have n0_ := Aside0.mk (blk_below (rb BK880.out) hb); have n1_ := Aside0.mk (below_step (bb HB.out) hb); have n2_ := Aside0.mk (hbox); have n3_ := Aside0.mk ((by rw [hg]; exact (below_size (bb HB.out)) : w.heap.size ≤ gb881)); have n4_ := Aside0.mk ((by rw [hg]; exact (below_size (bb HB.out)) : w.heap.size ≤ gb881)); have n5_ := Aside0.mk ((by rw [hg]; exact Nat.ne_of_lt (blk_lt (g := gb880) (o := .cells #[.int .i64 a0_0, .int .i64 a0_1, .int .i64 a0_2, .int .i64 a0_3, .int .i64 a0_4, .int .i64 a0_5] 119 (0, 0)) (rb BK880.out)) : gb880 ≠ gb881)); have n6_ := Aside0.mk ((by rw [hg]; exact Nat.ne_of_gt (blk_lt (g := gb880) (o := .cells #[.int .i64 a0_0, .int .i64 a0_1, .int .i64 a0_2, .int .i64 a0_3, .int .i64 a0_4, .int .i64 a0_5] 119 (0, 0)) (rb BK880.out)) : gb881 ≠ gb880)); clear BK880; clear HB; have BK880 := n0_; have HB := n1_; have BK881 := n2_; have GW881 := n3_; have GE881 := n4_; have NB880_881 := n5_; have NB881_880 := n6_; clear n0_ n1_ n2_ n3_ n4_ n5_ n6_; clear hb hbox hg; have hnb16 := NB880_881.out; have hnc16 := NB881_880.out; have hcz17_0 := cz BK880.out 0 (.int .i64 a0_0); have hcz17_1 := cz BK880.out 1 (.int .i64 a0_1); have hcz17_2 := cz BK880.out 2 (.int .i64 a0_2); have hcz17_3 := cz BK880.out 3 (.int .i64 a0_3); have hcz17_4 := cz BK880.out 4 (.int .i64 a0_4); have hcz17_5 := cz BK880.out 5 (.int .i64 a0_5); have hfz17_0 := blk_frozen BK880.out 0; have hfz17_1 := blk_frozen BK880.out 1; have hfz17_2 := blk_frozen BK880.out 2; have hfz17_3 := blk_frozen BK880.out 3; have hfz17_4 := blk_frozen BK880.out 4; have hfz17_5 := blk_frozen BK880.out 5; have hcz18_0 := cz BK881.out 0 (.int .i64 a1_0); have hcz18_1 := cz BK881.out 1 (.int .i64 a1_1); have hcz18_2 := cz BK881.out 2 (.int .i64 a1_2); have hcz18_3 := cz BK881.out 3 (.int .i64 a1_3); have hcz18_4 := cz BK881.out 4 (.int .i64 a1_4); have hcz18_5 := cz BK881.out 5 (.int .i64 a1_5); have hfz18_0 := blk_frozen BK881.out 0; have hfz18_1 := blk_frozen BK881.out 1; have hfz18_2 := blk_frozen BK881.out 2; have hfz18_3 := blk_frozen BK881.out 3; have hfz18_4 := blk_frozen BK881.out 4; have hfz18_5 := blk_frozen BK881.out 5))
              go_ret
              exact ⟨by first | rfl | (simp [errW_none, errW_some] <;> rfl) | (simp [*, errW_none, errW_some] <;> rfl), bb HB.out⟩
          · rw [if_neg c7] at H
            have c7b0 : (a0_4 == a1_4) = false := beq_eq_false_iff_ne.mpr c7
            have c7b1 : (a0_4 != a1_4) = true := bne_iff_ne.mpr c7
            obtain rfl := Option.some.inj H
            go_enter Try.func154, Try.ntmps154
            go_wp2_with (first | ((with_reducible refine gate_dst (N := 2) rfl ?_); refine box_event ?hg (N := 2) ?hd (cs := #[.int .i64 a0_0, .int .i64 a0_1, .int .i64 a0_2, .int .i64 a0_3, .int .i64 a0_4, .int .i64 a0_5]) (t := 119) ?hr ?_; (case hd => rfl); (case hg => rfl); (case hr => first | (go_simp; done) | (go_simp; rfl)); intro gb880 hg w19 hbox hb; have n0_ := Aside0.mk (below_step (bb HB.out) hb); have n1_ := Aside0.mk (hbox); have n2_ := Aside0.mk ((by rw [hg]; exact (below_size (bb HB.out)) : w.heap.size ≤ gb880)); have n3_ := Aside0.mk ((by rw [hg]; exact (below_size (bb HB.out)) : w.heap.size ≤ gb880)); clear HB; have HB := n0_; have BK880 := n1_; have GW880 := n2_; have GE880 := n3_; clear n0_ n1_ n2_ n3_; clear hb hbox hg) | ((with_reducible refine gate_dst (N := 3) rfl ?_); refine box_event ?hg (N := 3) ?hd (cs := #[.int .i64 a1_0, .int .i64 a1_1, .int .i64 a1_2, .int .i64 a1_3, .int .i64 a1_4, .int .i64 a1_5]) (t := 119) ?hr ?_; (case hd => rfl); (case hg => rfl); (case hr => first | (go_simp; done) | (go_simp; rfl)); intro gb881 hg w20 hbox hb; have n0_ := Aside0.mk (blk_below (rb BK880.out) hb); have n1_ := Aside0.mk (below_step (bb HB.out) hb); have n2_ := Aside0.mk (hbox); have n3_ := Aside0.mk ((by rw [hg]; exact (below_size (bb HB.out)) : w.heap.size ≤ gb881)); have n4_ := Aside0.mk ((by rw [hg]; exact (below_size (bb HB.out)) : w.heap.size ≤ gb881)); have n5_ := Aside0.mk ((by rw [hg]; exact Nat.ne_of_lt (blk_lt (g := gb880) (o := .cells #[.int .i64 a0_0, .int .i64 a0_1, .int .i64 a0_2, .int .i64 a0_3, .int .i64 a0_4, .int .i64 a0_5] 119 (0, 0)) (rb BK880.out)) : gb880 ≠ gb881)); have n6_ := Aside0.mk ((by rw [hg]; exact Nat.ne_of_gt (blk_lt (g := gb880) (o := .cells #[.int .i64 a0_0, .int .i64 a0_1, .int .i64 a0_2, .int .i64 a0_3, .int .i64 a0_4, .int .i64 a0_5] 119 (0, 0)) (rb BK880.out)) : gb881 ≠ gb880)); clear BK880; clear HB; have BK880 := n0_; have HB := n1_; have BK881 := n2_; have GW881 := n3_; have GE881 := n4_; have NB880_881 := n5_; have NB881_880 := n6_; clear n0_ n1_ n2_ n3_ n4_ n5_ n6_; clear hb hbox hg; have hnb21 := NB880_881.out; have hnc21 := NB881_880.out; have hcz22_0 := cz BK880.out 0 (.int .i64 a0_0); have hcz22_1 := cz BK880.out 1 (.int .i64 a0_1); have hcz22_2 := cz BK880.out 2 (.int .i64 a0_2); have hcz22_3 := cz BK880.out 3 (.int .i64 a0_3); have hcz22_4 := cz BK880.out 4 (.int .i64 a0_4); have hcz22_5 := cz BK880.out 5 (.int .i64 a0_5); have hfz22_0 := blk_frozen BK880.out 0; have hfz22_1 := blk_frozen BK880.out 1; have hfz22_2 := blk_frozen BK880.out 2; have hfz22_3 := blk_frozen BK880.out 3; have hfz22_4 := blk_frozen BK880.out 4; have hfz22_5 := blk_frozen BK880.out 5; have hcz23_0 := cz BK881.out 0 (.int .i64 a1_0); have hcz23_1 := cz BK881.out 1 (.int .i64 a1_1); have hcz23_2 := cz BK881.out 2 (.int .i64 a1_2); have hcz23_3 := cz BK881.out 3 (.int .i64 a1_3); have hcz23_4 := cz BK881.out 4 (.int .i64 a1_4); have hcz23_5 := cz BK881.out 5 (.int .i64 a1_5); have hfz23_0 := blk_frozen BK881.out 0; have hfz23_1 := blk_frozen BK881.out 1; have hfz23_2 := blk_frozen BK881.out 2; have hfz23_3 := blk_frozen BK881.out 3; have hfz23_4 := blk_frozen BK881.out 4; have hfz23_5 := blk_frozen BK881.out 5))
            go_ret
            exact ⟨by first | rfl | (simp [errW_none, errW_some] <;> rfl) | (simp [*, errW_none, errW_some] <;> rfl), bb HB.out⟩
        · rw [if_neg c6] at H
          have c6b0 : (a0_3 == a1_3) = false := beq_eq_false_iff_ne.mpr c6
          have c6b1 : (a0_3 != a1_3) = true := bne_iff_ne.mpr c6
          obtain rfl := Option.some.inj H
          go_enter Try.func154, Try.ntmps154
          go_wp2_with (first | ((with_reducible refine gate_dst (N := 2) rfl ?_); refine box_event ?hg (N := 2) ?hd (cs := #[.int .i64 a0_0, .int .i64 a0_1, .int .i64 a0_2, .int .i64 a0_3, .int .i64 a0_4, .int .i64 a0_5]) (t := 119) ?hr ?_; (case hd => rfl); (case hg => rfl); (case hr => first | (go_simp; done) | (go_simp; rfl)); intro gb880 hg w24 hbox hb; have n0_ := Aside0.mk (below_step (bb HB.out) hb); have n1_ := Aside0.mk (hbox); have n2_ := Aside0.mk ((by rw [hg]; exact (below_size (bb HB.out)) : w.heap.size ≤ gb880)); have n3_ := Aside0.mk ((by rw [hg]; exact (below_size (bb HB.out)) : w.heap.size ≤ gb880)); clear HB; have HB := n0_; have BK880 := n1_; have GW880 := n2_; have GE880 := n3_; clear n0_ n1_ n2_ n3_; clear hb hbox hg) | ((with_reducible refine gate_dst (N := 3) rfl ?_); refine box_event ?hg (N := 3) ?hd (cs := #[.int .i64 a1_0, .int .i64 a1_1, .int .i64 a1_2, .int .i64 a1_3, .int .i64 a1_4, .int .i64 a1_5]) (t := 119) ?hr ?_; (case hd => rfl); (case hg => rfl); (case hr => first | (go_simp; done) | (go_simp; rfl)); intro gb881 hg w25 hbox hb; have n0_ := Aside0.mk (blk_below (rb BK880.out) hb); have n1_ := Aside0.mk (below_step (bb HB.out) hb); have n2_ := Aside0.mk (hbox); have n3_ := Aside0.mk ((by rw [hg]; exact (below_size (bb HB.out)) : w.heap.size ≤ gb881)); have n4_ := Aside0.mk ((by rw [hg]; exact (below_size (bb HB.out)) : w.heap.size ≤ gb881)); have n5_ := Aside0.mk ((by rw [hg]; exact Nat.ne_of_lt (blk_lt (g := gb880) (o := .cells #[.int .i64 a0_0, .int .i64 a0_1, .int .i64 a0_2, .int .i64 a0_3, .int .i64 a0_4, .int .i64 a0_5] 119 (0, 0)) (rb BK880.out)) : gb880 ≠ gb881)); have n6_ := Aside0.mk ((by rw [hg]; exact Nat.ne_of_gt (blk_lt (g := gb880) (o := .cells #[.int .i64 a0_0, .int .i64 a0_1, .int .i64 a0_2, .int .i64 a0_3, .int .i64 a0_4, .int .i64 a0_5] 119 (0, 0)) (rb BK880.out)) : gb881 ≠ gb880)); clear BK880; clear HB; have BK880 := n0_; have HB := n1_; have BK881 := n2_; have GW881 := n3_; have GE881 := n4_; have NB880_881 := n5_; have NB881_880 := n6_; clear n0_ n1_ n2_ n3_ n4_ n5_ n6_; clear hb hbox hg; have hnb26 := NB880_881.out; have hnc26 := NB881_880.out; have hcz27_0 := cz BK880.out 0 (.int .i64 a0_0); have hcz27_1 := cz BK880.out 1 (.int .i64 a0_1); have hcz27_2 := cz BK880.out 2 (.int .i64 a0_2); have hcz27_3 := cz BK880.out 3 (.int .i64 a0_3); have hcz27_4 := cz BK880.out 4 (.int .i64 a0_4); have hcz27_5 := cz BK880.out 5 (.int .i64 a0_5); have hfz27_0 := blk_frozen BK880.out 0; have hfz27_1 := blk_frozen BK880.out 1; have hfz27_2 := blk_frozen BK880.out 2; have hfz27_3 := blk_frozen BK880.out 3; have hfz27_4 := blk_frozen BK880.out 4; have hfz27_5 := blk_frozen BK880.out 5; have hcz28_0 := cz BK881.out 0 (.int .i64 a1_0); have hcz28_1 := cz BK881.out 1 (.int .i64 a1_1); have hcz28_2 := cz BK881.out 2 (.int .i64 a1_2); have hcz28_3 := cz BK881.out 3 (.int .i64 a1_3); have hcz28_4 := cz BK881.out 4 (.int .i64 a1_4); have hcz28_5 := cz BK881.out 5 (.int .i64 a1_5); have hfz28_0 := blk_frozen BK881.out 0; have hfz28_1 := blk_frozen BK881.out 1; have hfz28_2 := blk_frozen BK881.out 2; have hfz28_3 := blk_frozen BK881.out 3; have hfz28_4 := blk_frozen BK881.out 4; have hfz28_5 := blk_frozen BK881.out 5))
          go_ret
          exact ⟨by first | rfl | (simp [errW_none, errW_some] <;> rfl) | (simp [*, errW_none, errW_some] <;> rfl), bb HB.out⟩
      · rw [if_neg c5] at H
        have c5b0 : (a0_2 == a1_2) = false := beq_eq_false_iff_ne.mpr c5
        have c5b1 : (a0_2 != a1_2) = true := bne_iff_ne.mpr c5
        obtain rfl := Option.some.inj H
        go_enter Try.func154, Try.ntmps154
        go_wp2_with (first | ((with_reducible refine gate_dst (N := 2) rfl ?_); refine box_event ?hg (N := 2) ?hd (cs := #[.int .i64 a0_0, .int .i64 a0_1, .int .i64 a0_2, .int .i64 a0_3, .int .i64 a0_4, .int .i64 a0_5]) (t := 119) ?hr ?_; (case hd => rfl); (case hg => rfl); (case hr => first | (go_simp; done) | (go_simp; rfl)); intro gb880 hg w29 hbox hb; have n0_ := Aside0.mk (below_step (bb HB.out) hb); have n1_ := Aside0.mk (hbox); have n2_ := Aside0.mk ((by rw [hg]; exact (below_size (bb HB.out)) : w.heap.size ≤ gb880)); have n3_ := Aside0.mk ((by rw [hg]; exact (below_size (bb HB.out)) : w.heap.size ≤ gb880)); clear HB; have HB := n0_; have BK880 := n1_; have GW880 := n2_; have GE880 := n3_; clear n0_ n1_ n2_ n3_; clear hb hbox hg) | ((with_reducible refine gate_dst (N := 3) rfl ?_); refine box_event ?hg (N := 3) ?hd (cs := #[.int .i64 a1_0, .int .i64 a1_1, .int .i64 a1_2, .int .i64 a1_3, .int .i64 a1_4, .int .i64 a1_5]) (t := 119) ?hr ?_; (case hd => rfl); (case hg => rfl); (case hr => first | (go_simp; done) | (go_simp; rfl)); intro gb881 hg w30 hbox hb; have n0_ := Aside0.mk (blk_below (rb BK880.out) hb); have n1_ := Aside0.mk (below_step (bb HB.out) hb); have n2_ := Aside0.mk (hbox); have n3_ := Aside0.mk ((by rw [hg]; exact (below_size (bb HB.out)) : w.heap.size ≤ gb881)); have n4_ := Aside0.mk ((by rw [hg]; exact (below_size (bb HB.out)) : w.heap.size ≤ gb881)); have n5_ := Aside0.mk ((by rw [hg]; exact Nat.ne_of_lt (blk_lt (g := gb880) (o := .cells #[.int .i64 a0_0, .int .i64 a0_1, .int .i64 a0_2, .int .i64 a0_3, .int .i64 a0_4, .int .i64 a0_5] 119 (0, 0)) (rb BK880.out)) : gb880 ≠ gb881)); have n6_ := Aside0.mk ((by rw [hg]; exact Nat.ne_of_gt (blk_lt (g := gb880) (o := .cells #[.int .i64 a0_0, .int .i64 a0_1, .int .i64 a0_2, .int .i64 a0_3, .int .i64 a0_4, .int .i64 a0_5] 119 (0, 0)) (rb BK880.out)) : gb881 ≠ gb880)); clear BK880; clear HB; have BK880 := n0_; have HB := n1_; have BK881 := n2_; have GW881 := n3_; have GE881 := n4_; have NB880_881 := n5_; have NB881_880 := n6_; clear n0_ n1_ n2_ n3_ n4_ n5_ n6_; clear hb hbox hg; have hnb31 := NB880_881.out; have hnc31 := NB881_880.out; have hcz32_0 := cz BK880.out 0 (.int .i64 a0_0); have hcz32_1 := cz BK880.out 1 (.int .i64 a0_1); have hcz32_2 := cz BK880.out 2 (.int .i64 a0_2); have hcz32_3 := cz BK880.out 3 (.int .i64 a0_3); have hcz32_4 := cz BK880.out 4 (.int .i64 a0_4); have hcz32_5 := cz BK880.out 5 (.int .i64 a0_5); have hfz32_0 := blk_frozen BK880.out 0; have hfz32_1 := blk_frozen BK880.out 1; have hfz32_2 := blk_frozen BK880.out 2; have hfz32_3 := blk_frozen BK880.out 3; have hfz32_4 := blk_frozen BK880.out 4; have hfz32_5 := blk_frozen BK880.out 5; have hcz33_0 := cz BK881.out 0 (.int .i64 a1_0); have hcz33_1 := cz BK881.out 1 (.int .i64 a1_1); have hcz33_2 := cz BK881.out 2 (.int .i64 a1_2); have hcz33_3 := cz BK881.out 3 (.int .i64 a1_3); have hcz33_4 := cz BK881.out 4 (.int .i64 a1_4); have hcz33_5 := cz BK881.out 5 (.int .i64 a1_5); have hfz33_0 := blk_frozen BK881.out 0; have hfz33_1 := blk_frozen BK881.out 1; have hfz33_2 := blk_frozen BK881.out 2; have hfz33_3 := blk_frozen BK881.out 3; have hfz33_4 := blk_frozen BK881.out 4; have hfz33_5 := blk_frozen BK881.out 5))
        go_ret
        exact ⟨by first | rfl | (simp [errW_none, errW_some] <;> rfl) | (simp [*, errW_none, errW_some] <;> rfl), bb HB.out⟩
    · rw [if_neg c4] at H
      have c4b0 : (a0_1 == a1_1) = false := beq_eq_false_iff_ne.mpr c4
      have c4b1 : (a0_1 != a1_1) = true := bne_iff_ne.mpr c4
      obtain rfl := Option.some.inj H
      go_enter Try.func154, Try.ntmps154
      go_wp2_with (first | ((with_reducible refine gate_dst (N := 2) rfl ?_); refine box_event ?hg (N := 2) ?hd (cs := #[.int .i64 a0_0, .int .i64 a0_1, .int .i64 a0_2, .int .i64 a0_3, .int .i64 a0_4, .int .i64 a0_5]) (t := 119) ?hr ?_; (case hd => rfl); (case hg => rfl); (case hr => first | (go_simp; done) | (go_simp; rfl)); intro gb880 hg w34 hbox hb; have n0_ := Aside0.mk (below_step (bb HB.out) hb); have n1_ := Aside0.mk (hbox); have n2_ := Aside0.mk ((by rw [hg]; exact (below_size (bb HB.out)) : w.heap.size ≤ gb880)); have n3_ := Aside0.mk ((by rw [hg]; exact (below_size (bb HB.out)) : w.heap.size ≤ gb880)); clear HB; have HB := n0_; have BK880 := n1_; have GW880 := n2_; have GE880 := n3_; clear n0_ n1_ n2_ n3_; clear hb hbox hg) | ((with_reducible refine gate_dst (N := 3) rfl ?_); refine box_event ?hg (N := 3) ?hd (cs := #[.int .i64 a1_0, .int .i64 a1_1, .int .i64 a1_2, .int .i64 a1_3, .int .i64 a1_4, .int .i64 a1_5]) (t := 119) ?hr ?_; (case hd => rfl); (case hg => rfl); (case hr => first | (go_simp; done) | (go_simp; rfl)); intro gb881 hg w35 hbox hb; have n0_ := Aside0.mk (blk_below (rb BK880.out) hb); have n1_ := Aside0.mk (below_step (bb HB.out) hb); have n2_ := Aside0.mk (hbox); have n3_ := Aside0.mk ((by rw [hg]; exact (below_size (bb HB.out)) : w.heap.size ≤ gb881)); have n4_ := Aside0.mk ((by rw [hg]; exact (below_size (bb HB.out)) : w.heap.size ≤ gb881)); have n5_ := Aside0.mk ((by rw [hg]; exact Nat.ne_of_lt (blk_lt (g := gb880) (o := .cells #[.int .i64 a0_0, .int .i64 a0_1, .int .i64 a0_2, .int .i64 a0_3, .int .i64 a0_4, .int .i64 a0_5] 119 (0, 0)) (rb BK880.out)) : gb880 ≠ gb881)); have n6_ := Aside0.mk ((by rw [hg]; exact Nat.ne_of_gt (blk_lt (g := gb880) (o := .cells #[.int .i64 a0_0, .int .i64 a0_1, .int .i64 a0_2, .int .i64 a0_3, .int .i64 a0_4, .int .i64 a0_5] 119 (0, 0)) (rb BK880.out)) : gb881 ≠ gb880)); clear BK880; clear HB; have BK880 := n0_; have HB := n1_; have BK881 := n2_; have GW881 := n3_; have GE881 := n4_; have NB880_881 := n5_; have NB881_880 := n6_; clear n0_ n1_ n2_ n3_ n4_ n5_ n6_; clear hb hbox hg; have hnb36 := NB880_881.out; have hnc36 := NB881_880.out; have hcz37_0 := cz BK880.out 0 (.int .i64 a0_0); have hcz37_1 := cz BK880.out 1 (.int .i64 a0_1); have hcz37_2 := cz BK880.out 2 (.int .i64 a0_2); have hcz37_3 := cz BK880.out 3 (.int .i64 a0_3); have hcz37_4 := cz BK880.out 4 (.int .i64 a0_4); have hcz37_5 := cz BK880.out 5 (.int .i64 a0_5); have hfz37_0 := blk_frozen BK880.out 0; have hfz37_1 := blk_frozen BK880.out 1; have hfz37_2 := blk_frozen BK880.out 2; have hfz37_3 := blk_frozen BK880.out 3; have hfz37_4 := blk_frozen BK880.out 4; have hfz37_5 := blk_frozen BK880.out 5; have hcz38_0 := cz BK881.out 0 (.int .i64 a1_0); have hcz38_1 := cz BK881.out 1 (.int .i64 a1_1); have hcz38_2 := cz BK881.out 2 (.int .i64 a1_2); have hcz38_3 := cz BK881.out 3 (.int .i64 a1_3); have hcz38_4 := cz BK881.out 4 (.int .i64 a1_4); have hcz38_5 := cz BK881.out 5 (.int .i64 a1_5); have hfz38_0 := blk_frozen BK881.out 0; have hfz38_1 := blk_frozen BK881.out 1; have hfz38_2 := blk_frozen BK881.out 2; have hfz38_3 := blk_frozen BK881.out 3; have hfz38_4 := blk_frozen BK881.out 4; have hfz38_5 := blk_frozen BK881.out 5))
      go_ret
      exact ⟨by first | rfl | (simp [errW_none, errW_some] <;> rfl) | (simp [*, errW_none, errW_some] <;> rfl), bb HB.out⟩
  · rw [if_neg c3] at H
    have c3b0 : (a0_0 == a1_0) = false := beq_eq_false_iff_ne.mpr c3
    have c3b1 : (a0_0 != a1_0) = true := bne_iff_ne.mpr c3
    obtain rfl := Option.some.inj H
    go_enter Try.func154, Try.ntmps154
    go_wp2_with (first | ((with_reducible refine gate_dst (N := 2) rfl ?_); refine box_event ?hg (N := 2) ?hd (cs := #[.int .i64 a0_0, .int .i64 a0_1, .int .i64 a0_2, .int .i64 a0_3, .int .i64 a0_4, .int .i64 a0_5]) (t := 119) ?hr ?_; (case hd => rfl); (case hg => rfl); (case hr => first | (go_simp; done) | (go_simp; rfl)); intro gb880 hg w39 hbox hb; have n0_ := Aside0.mk (below_step (bb HB.out) hb); have n1_ := Aside0.mk (hbox); have n2_ := Aside0.mk ((by rw [hg]; exact (below_size (bb HB.out)) : w.heap.size ≤ gb880)); have n3_ := Aside0.mk ((by rw [hg]; exact (below_size (bb HB.out)) : w.heap.size ≤ gb880)); clear HB; have HB := n0_; have BK880 := n1_; have GW880 := n2_; have GE880 := n3_; clear n0_ n1_ n2_ n3_; clear hb hbox hg) | ((with_reducible refine gate_dst (N := 3) rfl ?_); refine box_event ?hg (N := 3) ?hd (cs := #[.int .i64 a1_0, .int .i64 a1_1, .int .i64 a1_2, .int .i64 a1_3, .int .i64 a1_4, .int .i64 a1_5]) (t := 119) ?hr ?_; (case hd => rfl); (case hg => rfl); (case hr => first | (go_simp; done) | (go_simp; rfl)); intro gb881 hg w40 hbox hb; have n0_ := Aside0.mk (blk_below (rb BK880.out) hb); have n1_ := Aside0.mk (below_step (bb HB.out) hb); have n2_ := Aside0.mk (hbox); have n3_ := Aside0.mk ((by rw [hg]; exact (below_size (bb HB.out)) : w.heap.size ≤ gb881)); have n4_ := Aside0.mk ((by rw [hg]; exact (below_size (bb HB.out)) : w.heap.size ≤ gb881)); have n5_ := Aside0.mk ((by rw [hg]; exact Nat.ne_of_lt (blk_lt (g := gb880) (o := .cells #[.int .i64 a0_0, .int .i64 a0_1, .int .i64 a0_2, .int .i64 a0_3, .int .i64 a0_4, .int .i64 a0_5] 119 (0, 0)) (rb BK880.out)) : gb880 ≠ gb881)); have n6_ := Aside0.mk ((by rw [hg]; exact Nat.ne_of_gt (blk_lt (g := gb880) (o := .cells #[.int .i64 a0_0, .int .i64 a0_1, .int .i64 a0_2, .int .i64 a0_3, .int .i64 a0_4, .int .i64 a0_5] 119 (0, 0)) (rb BK880.out)) : gb881 ≠ gb880)); clear BK880; clear HB; have BK880 := n0_; have HB := n1_; have BK881 := n2_; have GW881 := n3_; have GE881 := n4_; have NB880_881 := n5_; have NB881_880 := n6_; clear n0_ n1_ n2_ n3_ n4_ n5_ n6_; clear hb hbox hg; have hnb41 := NB880_881.out; have hnc41 := NB881_880.out; have hcz42_0 := cz BK880.out 0 (.int .i64 a0_0); have hcz42_1 := cz BK880.out 1 (.int .i64 a0_1); have hcz42_2 := cz BK880.out 2 (.int .i64 a0_2); have hcz42_3 := cz BK880.out 3 (.int .i64 a0_3); have hcz42_4 := cz BK880.out 4 (.int .i64 a0_4); have hcz42_5 := cz BK880.out 5 (.int .i64 a0_5); have hfz42_0 := blk_frozen BK880.out 0; have hfz42_1 := blk_frozen BK880.out 1; have hfz42_2 := blk_frozen BK880.out 2; have hfz42_3 := blk_frozen BK880.out 3; have hfz42_4 := blk_frozen BK880.out 4; have hfz42_5 := blk_frozen BK880.out 5; have hcz43_0 := cz BK881.out 0 (.int .i64 a1_0); have hcz43_1 := cz BK881.out 1 (.int .i64 a1_1); have hcz43_2 := cz BK881.out 2 (.int .i64 a1_2); have hcz43_3 := cz BK881.out 3 (.int .i64 a1_3); have hcz43_4 := cz BK881.out 4 (.int .i64 a1_4); have hcz43_5 := cz BK881.out 5 (.int .i64 a1_5); have hfz43_0 := blk_frozen BK881.out 0; have hfz43_1 := blk_frozen BK881.out 1; have hfz43_2 := blk_frozen BK881.out 2; have hfz43_3 := blk_frozen BK881.out 3; have hfz43_4 := blk_frozen BK881.out 4; have hfz43_5 := blk_frozen BK881.out 5))
    go_ret
    exact ⟨by first | rfl | (simp [errW_none, errW_some] <;> rfl) | (simp [*, errW_none, errW_some] <;> rfl), bb HB.out⟩
end Go.Proofs.Ytbfochojhmggfaa.R
end
section
namespace Go.Proofs.Ytbfochojhmggfaa.R
open Go.RowKit Go.Proofs.YtbfochojhmggfaaW.PrintWords Go.Proofs.YtbfochojhmggfaaW.PrintLast Go.Proofs.YtbfochojhmggfaaW.PrintMore
attribute [local go_sem] max2_int min2_int max_two min_two max_three min_three max_four min_four
set_option linter.unusedVariables false
set_option linter.unusedSimpArgs false
def laws_eqFactS.l0 : Nat → List (S119) → List (S119) → Int → Option (Bool)
  | 0, _, _, _ => none
  | k + 1, x0, x1, x5 => if x5 < (x0.length : Int) then (if 0 ≤ x5 then (if x5 < (x1.length : Int) then ((laws_eqFact.f ((rd_T119 x0 x5).f0) ((rd_T119 x0 x5).f1) ((rd_T119 x0 x5).f2) ((rd_T119 x0 x5).f3) ((rd_T119 x0 x5).f4) ((rd_T119 x0 x5).f5) ((rd_T119 x1 x5).f0) ((rd_T119 x1 x5).f1) ((rd_T119 x1 x5).f2) ((rd_T119 x1 x5).f3) ((rd_T119 x1 x5).f4) ((rd_T119 x1 x5).f5)).bind fun t884 => (if t884 = true then (laws_eqFactS.l0 k x0 x1 (wrap64 (x5 + 1))) else (some false))) else (none)) else (none)) else (some true)
def laws_eqFactS.f (k : Nat) (l0 : List (S119)) (l1 : List (S119)) : Option (Bool) := if (l0.length : Int) = (l1.length : Int) then (laws_eqFactS.l0 k l0 l1 0) else (some false)
def laws_eqFactS.T6 : Bool × List (List Nat × List Nat) := (true, [([], []), ([], []), ([0, 1], [0, 1]), ([2], [2]), ([], []), ([], []), ([4, 5], [4, 5]), ([6], [6]), ([3, 7], [3, 7]), ([8], [8])])
def laws_eqFactS.B6 : List Nat := [0, 0, 3, 7, 0, 0, 48, 112, 255, 511]
theorem laws_eqFactS.tab6 : rtab .any (opsOf Try.f72 6) = laws_eqFactS.T6 := by kernel_rfl
theorem laws_eqFactS.bits6 : waitsOk laws_eqFactS.T6.2 laws_eqFactS.B6 = true := by kernel_rfl
set_option maxHeartbeats 8000000 in
set_option maxRecDepth 100000 in
theorem laws_eqFactS.calls (k : Nat) (A0 : Option Addr) (c0 : Nat) (l0 : List (S119)) (A1 : Option Addr) (c1 : Nat) (l1 : List (S119)) (r : Bool) (w : World) (hr0 : Kd.C k119 w A0 l0.length l0) (hc0 : l0.length ≤ c0) (hr1 : Kd.C k119 w A1 l1.length l1) (hc1 : l1.length ≤ c1) (h : laws_eqFactS.f k l0 l1 = some r) :
    Calls Try.prog 72 #[.slice A0 l0.length c0, .slice A1 l1.length c1] w fun e w' => e = .returned (.bool r) ∧ Below w.heap.size w w' := by
  have hu119 := Try.underlying119
  have HR0 := Aside0.mk hr0
  have HC0 := Aside0.mk hc0
  clear hr0 hc0
  have HR1 := Aside0.mk hr1
  have HC1 := Aside0.mk hc1
  clear hr1 hc1
  have HB := Aside0.mk (Below.refl w.heap.size w)
  have H : (if (l0.length : Int) = (l1.length : Int) then (laws_eqFactS.l0 k l0 l1 0) else (some false)) = some r := h
  clear h
  by_cases c3 : (l0.length : Int) = (l1.length : Int)
  · rw [if_pos c3] at H
    have c3b0 : ((l0.length : Int) == (l1.length : Int)) = true := beq_iff_eq.mpr c3
    have c3b1 : ((l0.length : Int) != (l1.length : Int)) = false := bne_eq_false_iff_eq.mpr c3
    have c3b2 : (l0.length == l1.length) = true := by first | simpa using c3 | (simp at c3 ⊢; omega)
    clear c3
    have H' := Aside0.mk H
    clear H
    go_enter Try.func72, Try.ntmps72
    go_wp2
    go_loopg [5] k (fun kq v5 w' => ∃ (x5_1 : Int), v5 = .int .i64 x5_1 ∧ Aside0 (laws_eqFactS.l0 kq l0 l1 x5_1 = some r) ∧ Aside0 (kq ≤ k) ∧ Aside0 (Below w.heap.size w w'))
    case atStart => exact ⟨(0), (by first | rfl | (simp; done) | (simp [*]; done)), H', ⟨Nat.le_refl _⟩, ⟨bb HB.out⟩⟩
    case round =>
      clear H'
      try clear c1
      try clear p2
      try clear c3
      try clear c3b0
      try clear c3b1
      try clear c3b2
      obtain ⟨x5_1, rfl, HA, HK1, HB⟩ := hrel
      cases gk with
      | zero => exact absurd HA.out (by simp [laws_eqFactS.l0])
      | succ k1 =>
        have H := HA.out
        clear HA
        simp only [laws_eqFactS.l0] at H
        by_cases c4 : x5_1 < (l0.length : Int)
        · rw [if_pos c4] at H
          have c4b0 : decide (x5_1 < (l0.length : Int)) = true := decide_eq_true c4
          clear c4
          by_cases c5 : 0 ≤ x5_1
          · rw [if_pos c5] at H
            have c5b0 : decide (0 ≤ x5_1) = true := decide_eq_true c5
            clear c5
            by_cases c6 : x5_1 < (l1.length : Int)
            · rw [if_pos c6] at H
              have c6b0 : decide (x5_1 < (l1.length : Int)) = true := decide_eq_true c6
              clear c6
              replace H := Option.bind_eq_some_iff.mp H
              obtain ⟨t884, A70, H⟩ := H
              replace H : (if t884 = true then (laws_eqFactS.l0 k1 l0 l1 (wrap64 (x5_1 + 1))) else (some false)) = some r := H
              have A7 := Aside0.mk A70
              clear A70
              by_cases c8 : t884 = true
              · subst c8
                have H1 : (laws_eqFactS.l0 k1 l0 l1 (wrap64 (x5_1 + 1))) = some r := by rw [if_pos rfl] at H; exact H
                clear H
                have H := H1
                clear H1
                have H' := Aside0.mk H
                clear H
                try go_wp2
                have n0_ := Aside0.mk (below_drew1 HB.out)
                clear HB
                have HB := n0_
                clear n0_
                have p882 : 0 ≤ (x5_1 : Int) := of_decide_eq_true (by first | (with_reducible assumption) | assumption)
                have q882 : x5_1 < (l0.length : Int) := of_decide_eq_true (by first | (with_reducible assumption) | assumption)
                obtain ⟨ad882, e882, hx882_0, hx882_1, hx882_2, hx882_3, hx882_4, hx882_5⟩ := at_T119 HR0.out x5_1 p882 q882
                have hw882_5 := hx882_5
                have hw882_4 := hx882_4
                have hw882_3 := hx882_3
                have hw882_2 := hx882_2
                have hw882_1 := hx882_1
                have hw882_0 := hx882_0
                cases e882
                replace hx882_0 := (HB.out.cell (World.block_lt_of_cell? w _ hx882_0)).trans hx882_0
                replace hx882_1 := (HB.out.cell (World.block_lt_of_cell? w _ hx882_1)).trans hx882_1
                replace hx882_2 := (HB.out.cell (World.block_lt_of_cell? w _ hx882_2)).trans hx882_2
                replace hx882_3 := (HB.out.cell (World.block_lt_of_cell? w _ hx882_3)).trans hx882_3
                replace hx882_4 := (HB.out.cell (World.block_lt_of_cell? w _ hx882_4)).trans hx882_4
                replace hx882_5 := (HB.out.cell (World.block_lt_of_cell? w _ hx882_5)).trans hx882_5
                replace p882 := eq_true p882
                replace q882 := eq_true q882
                have p883 : 0 ≤ (x5_1 : Int) := of_decide_eq_true (by first | (with_reducible assumption) | assumption)
                have q883 : x5_1 < (l1.length : Int) := of_decide_eq_true (by first | (with_reducible assumption) | assumption)
                obtain ⟨ad883, e883, hx883_0, hx883_1, hx883_2, hx883_3, hx883_4, hx883_5⟩ := at_T119 HR1.out x5_1 p883 q883
                have hw883_5 := hx883_5
                have hw883_4 := hx883_4
                have hw883_3 := hx883_3
                have hw883_2 := hx883_2
                have hw883_1 := hx883_1
                have hw883_0 := hx883_0
                cases e883
                replace hx883_0 := (HB.out.cell (World.block_lt_of_cell? w _ hx883_0)).trans hx883_0
                replace hx883_1 := (HB.out.cell (World.block_lt_of_cell? w _ hx883_1)).trans hx883_1
                replace hx883_2 := (HB.out.cell (World.block_lt_of_cell? w _ hx883_2)).trans hx883_2
                replace hx883_3 := (HB.out.cell (World.block_lt_of_cell? w _ hx883_3)).trans hx883_3
                replace hx883_4 := (HB.out.cell (World.block_lt_of_cell? w _ hx883_4)).trans hx883_4
                replace hx883_5 := (HB.out.cell (World.block_lt_of_cell? w _ hx883_5)).trans hx883_5
                replace p883 := eq_true p883
                replace q883 := eq_true q883
                refine start_ (n := 10) (S := fun w' => w'.cell? (ad882.add ((x5_1).toNat * 6)) = some (.int .i64 ((rd_T119 l0 x5_1).f0)) ∧ w'.cell? ⟨(ad882.add ((x5_1).toNat * 6)).block, (ad882.add ((x5_1).toNat * 6)).off + 1, none⟩ = some (.int .i64 ((rd_T119 l0 x5_1).f1)) ∧ w'.cell? ⟨(ad882.add ((x5_1).toNat * 6)).block, (ad882.add ((x5_1).toNat * 6)).off + 2, none⟩ = some (.int .i64 ((rd_T119 l0 x5_1).f2)) ∧ w'.cell? ⟨(ad882.add ((x5_1).toNat * 6)).block, (ad882.add ((x5_1).toNat * 6)).off + 3, none⟩ = some (.int .i64 ((rd_T119 l0 x5_1).f3)) ∧ w'.cell? ⟨(ad882.add ((x5_1).toNat * 6)).block, (ad882.add ((x5_1).toNat * 6)).off + 4, none⟩ = some (.int .i64 ((rd_T119 l0 x5_1).f4)) ∧ w'.cell? ⟨(ad882.add ((x5_1).toNat * 6)).block, (ad882.add ((x5_1).toNat * 6)).off + 5, none⟩ = some (.int .i64 ((rd_T119 l0 x5_1).f5)) ∧ w'.cell? (ad883.add ((x5_1).toNat * 6)) = some (.int .i64 ((rd_T119 l1 x5_1).f0)) ∧ w'.cell? ⟨(ad883.add ((x5_1).toNat * 6)).block, (ad883.add ((x5_1).toNat * 6)).off + 1, none⟩ = some (.int .i64 ((rd_T119 l1 x5_1).f1)) ∧ w'.cell? ⟨(ad883.add ((x5_1).toNat * 6)).block, (ad883.add ((x5_1).toNat * 6)).off + 2, none⟩ = some (.int .i64 ((rd_T119 l1 x5_1).f2)) ∧ w'.cell? ⟨(ad883.add ((x5_1).toNat * 6)).block, (ad883.add ((x5_1).toNat * 6)).off + 3, none⟩ = some (.int .i64 ((rd_T119 l1 x5_1).f3)) ∧ w'.cell? ⟨(ad883.add ((x5_1).toNat * 6)).block, (ad883.add ((x5_1).toNat * 6)).off + 4, none⟩ = some (.int .i64 ((rd_T119 l1 x5_1).f4)) ∧ w'.cell? ⟨(ad883.add ((x5_1).toNat * 6)).block, (ad883.add ((x5_1).toNat * 6)).off + 5, none⟩ = some (.int .i64 ((rd_T119 l1 x5_1).f5))) (ds := []) #[false, false, false, false, false, false, false, false, false, false] (by kernel_rfl) rfl rfl ⟨((HB.out.cell (World.block_lt_of_cell? w _ hw882_0)).trans hw882_0), ((HB.out.cell (World.block_lt_of_cell? w _ hw882_1)).trans hw882_1), ((HB.out.cell (World.block_lt_of_cell? w _ hw882_2)).trans hw882_2), ((HB.out.cell (World.block_lt_of_cell? w _ hw882_3)).trans hw882_3), ((HB.out.cell (World.block_lt_of_cell? w _ hw882_4)).trans hw882_4), ((HB.out.cell (World.block_lt_of_cell? w _ hw882_5)).trans hw882_5), ((HB.out.cell (World.block_lt_of_cell? w _ hw883_0)).trans hw883_0), ((HB.out.cell (World.block_lt_of_cell? w _ hw883_1)).trans hw883_1), ((HB.out.cell (World.block_lt_of_cell? w _ hw883_2)).trans hw883_2), ((HB.out.cell (World.block_lt_of_cell? w _ hw883_3)).trans hw883_3), ((HB.out.cell (World.block_lt_of_cell? w _ hw883_4)).trans hw883_4), ((HB.out.cell (World.block_lt_of_cell? w _ hw883_5)).trans hw883_5)⟩ (fun hHeld => ?_); refine with_tabW laws_eqFactS.tab6 laws_eqFactS.bits6 (fun HT_ HW_ => ?_)
                generalize wr.drew = w9 at HB hx882_0 hx882_1 hx882_2 hx882_3 hx882_4 hx882_5 hx883_0 hx883_1 hx883_2 hx883_3 hx883_4 hx883_5 hHeld ⊢
                refine pure_ (i := 0) (N := some 17) (v := ?_) (a' := ?_) #[true, false, false, false, false, false, false, false, false, false] rfl rfl (any_of HT_.out (by kernel_rfl)) (fun _ _ _ h => h) (Or.inl ⟨by rfl, ?_⟩) ?_ ?_
                rotate_left
                · intro w'
                  go_simp
                  with_reducible rfl
                rotate_left
                · simp only [Act.put, List.setIfInBounds_toArray, List.set_cons_zero, List.set_cons_succ, i64_w, i32_w]
                  rfl
                refine pure_ (i := 1) (N := some 18) (v := ?_) (a' := ?_) #[true, true, false, false, false, false, false, false, false, false] rfl rfl (any_of HT_.out (by kernel_rfl)) (fun _ _ _ h => h) (Or.inl ⟨by rfl, ?_⟩) ?_ ?_
                rotate_left
                · intro w'
                  go_simp
                  with_reducible rfl
                rotate_left
                · simp only [Act.put, List.setIfInBounds_toArray, List.set_cons_zero, List.set_cons_succ, i64_w, i32_w]
                  rfl
                refine pure_ (i := 2) (N := some 19) (v := ?_) (a' := ?_) #[true, true, true, false, false, false, false, false, false, false] rfl rfl (any_of HT_.out (by kernel_rfl)) (fun _ _ _ h => h) (Or.inl ⟨by rfl, ?_⟩) ?_ ?_
                rotate_left
                · intro w'
                  go_simp
                  with_reducible rfl
                rotate_left
                · simp only [Act.put, List.setIfInBounds_toArray, List.set_cons_zero, List.set_cons_succ, i64_w, i32_w]
                  rfl
                refine pure_ (i := 4) (N := some 21) (v := ?_) (a' := ?_) #[true, true, true, false, true, false, false, false, false, false] rfl rfl (any_of HT_.out (by kernel_rfl)) (fun _ _ _ h => h) (Or.inl ⟨by rfl, ?_⟩) ?_ ?_
                rotate_left
                · intro w'
                  go_simp
                  with_reducible rfl
                rotate_left
                · simp only [Act.put, List.setIfInBounds_toArray, List.set_cons_zero, List.set_cons_succ, i64_w, i32_w]
                  rfl
                refine pure_ (i := 5) (N := some 22) (v := ?_) (a' := ?_) #[true, true, true, false, true, true, false, false, false, false] rfl rfl (any_of HT_.out (by kernel_rfl)) (fun _ _ _ h => h) (Or.inl ⟨by rfl, ?_⟩) ?_ ?_
                rotate_left
                · intro w'
                  go_simp
                  with_reducible rfl
                rotate_left
                · simp only [Act.put, List.setIfInBounds_toArray, List.set_cons_zero, List.set_cons_succ, i64_w, i32_w]
                  rfl
                refine pure_ (i := 6) (N := some 23) (v := ?_) (a' := ?_) #[true, true, true, false, true, true, true, false, false, false] rfl rfl (any_of HT_.out (by kernel_rfl)) (fun _ _ _ h => h) (Or.inl ⟨by rfl, ?_⟩) ?_ ?_
                rotate_left
                · intro w'
                  go_simp
                  with_reducible rfl
                rotate_left
                · simp only [Act.put, List.setIfInBounds_toArray, List.set_cons_zero, List.set_cons_succ, i64_w, i32_w]
                  rfl
                refine take_ (i := 3) (N := some 20) (v := ?_) (a' := ?_) #[true, true, true, true, true, true, true, false, false, false] rfl rfl (take_ofW HT_.out HW_.out (by kernel_rfl)) (fun _ _ _ h => h) (Or.inl ⟨by rfl, ?_⟩) hHeld ?_ ?_
                rotate_left
                · rintro w' ⟨s0, s1, s2, s3, s4, s5, s6, s7, s8, s9, s10, s11⟩
                  go_simp
                  with_reducible rfl
                rotate_left
                · simp only [Act.put, List.setIfInBounds_toArray, List.set_cons_zero, List.set_cons_succ, i64_w, i32_w]
                  rfl
                refine take_ (i := 7) (N := some 24) (v := ?_) (a' := ?_) #[true, true, true, true, true, true, true, true, false, false] rfl rfl (take_ofW HT_.out HW_.out (by kernel_rfl)) (fun _ _ _ h => h) (Or.inl ⟨by rfl, ?_⟩) hHeld ?_ ?_
                rotate_left
                · rintro w' ⟨s0, s1, s2, s3, s4, s5, s6, s7, s8, s9, s10, s11⟩
                  go_simp
                  with_reducible rfl
                rotate_left
                · simp only [Act.put, List.setIfInBounds_toArray, List.set_cons_zero, List.set_cons_succ, i64_w, i32_w]
                  rfl
                refine one_ (i := 8) (N := some 25) #[true, true, true, true, true, true, true, true, true, false] rfl rfl (one_of HT_.out (by kernel_rfl)) (by decide) (fun K hK => ?_)
                refine goes_ Try.func154 (by kernel_rfl) rfl #[.agg #[.int .i64 ((rd_T119 l0 x5_1).f0), .int .i64 ((rd_T119 l0 x5_1).f1), .int .i64 ((rd_T119 l0 x5_1).f2), .int .i64 ((rd_T119 l0 x5_1).f3), .int .i64 ((rd_T119 l0 x5_1).f4), .int .i64 ((rd_T119 l0 x5_1).f5)], .agg #[.int .i64 ((rd_T119 l1 x5_1).f0), .int .i64 ((rd_T119 l1 x5_1).f1), .int .i64 ((rd_T119 l1 x5_1).f2), .int .i64 ((rd_T119 l1 x5_1).f3), .int .i64 ((rd_T119 l1 x5_1).f4), .int .i64 ((rd_T119 l1 x5_1).f5)]] (by rfl) rfl rfl (by (try simp only [List.map_toArray, List.map_cons, List.map_nil]); first | done | rfl | (simp only [List.length_drop, List.length_take]; rfl)) ?_
                with_reducible refine (laws_eqFact.calls ((rd_T119 l0 x5_1).f0) ((rd_T119 l0 x5_1).f1) ((rd_T119 l0 x5_1).f2) ((rd_T119 l0 x5_1).f3) ((rd_T119 l0 x5_1).f4) ((rd_T119 l0 x5_1).f5) ((rd_T119 l1 x5_1).f0) ((rd_T119 l1 x5_1).f1) ((rd_T119 l1 x5_1).f2) ((rd_T119 l1 x5_1).f3) ((rd_T119 l1 x5_1).f4) ((rd_T119 l1 x5_1).f5) true _ A7.out).mono ?_
                rintro e w10 ⟨rfl, hb⟩
                refine ⟨_, rfl, ?_⟩
                have n0_ := Aside0.mk (below_step (bb HB.out) hb)
                clear HB
                have HB := n0_
                clear n0_
                (try clear hb)
                (try clear hb2)
                (try clear hk)
                (try clear hi)
                refine hK.out _ _ ⟨((HB.out.cell (World.block_lt_of_cell? w _ hw882_0)).trans hw882_0), ((HB.out.cell (World.block_lt_of_cell? w _ hw882_1)).trans hw882_1), ((HB.out.cell (World.block_lt_of_cell? w _ hw882_2)).trans hw882_2), ((HB.out.cell (World.block_lt_of_cell? w _ hw882_3)).trans hw882_3), ((HB.out.cell (World.block_lt_of_cell? w _ hw882_4)).trans hw882_4), ((HB.out.cell (World.block_lt_of_cell? w _ hw882_5)).trans hw882_5), ((HB.out.cell (World.block_lt_of_cell? w _ hw883_0)).trans hw883_0), ((HB.out.cell (World.block_lt_of_cell? w _ hw883_1)).trans hw883_1), ((HB.out.cell (World.block_lt_of_cell? w _ hw883_2)).trans hw883_2), ((HB.out.cell (World.block_lt_of_cell? w _ hw883_3)).trans hw883_3), ((HB.out.cell (World.block_lt_of_cell? w _ hw883_4)).trans hw883_4), ((HB.out.cell (World.block_lt_of_cell? w _ hw883_5)).trans hw883_5)⟩ (fun hHeld => ?_)
                clear hK K
                refine norm_ (a' := ?_) ?_ ?_
                rotate_left
                · show Act.put _ (some 25) _ = _
                  simp only [Act.put, List.setIfInBounds_toArray, List.set_cons_zero, List.set_cons_succ, i64_w, i32_w]
                  rfl
                refine pure_ (i := 9) (N := some 26) (v := ?_) (a' := ?_) #[true, true, true, true, true, true, true, true, true, true] rfl rfl (any_of HT_.out (by kernel_rfl)) (fun _ _ _ h => h) (Or.inl ⟨by rfl, ?_⟩) ?_ ?_
                rotate_left
                · intro w'
                  go_simp
                  with_reducible rfl
                rotate_left
                · simp only [Act.put, List.setIfInBounds_toArray, List.set_cons_zero, List.set_cons_succ, i64_w, i32_w]
                  rfl
                refine done_ (done_of HT_.out (by kernel_rfl)) ?_
                try go_wp2
                go_roundg k1
                case measure => have := HK1.out; omega
                case rel => exact ⟨(wrap64 (x5_1 + 1)), (by first | rfl | (simp; done) | (simp [*]; done)), H', ⟨by have := HK1.out; omega⟩, ⟨bb HB.out⟩⟩
              · replace c8 := Bool.eq_false_iff.mpr c8
                subst c8
                have H1 : (some false) = some r := by rw [if_neg (show ¬ (false = true) by decide)] at H; exact H
                clear H
                have H := H1
                clear H1
                obtain rfl := Option.some.inj H
                try go_wp2
                have n0_ := Aside0.mk (below_drew1 HB.out)
                clear HB
                have HB := n0_
                clear n0_
                have p882 : 0 ≤ (x5_1 : Int) := of_decide_eq_true (by first | (with_reducible assumption) | assumption)
                have q882 : x5_1 < (l0.length : Int) := of_decide_eq_true (by first | (with_reducible assumption) | assumption)
                obtain ⟨ad882, e882, hx882_0, hx882_1, hx882_2, hx882_3, hx882_4, hx882_5⟩ := at_T119 HR0.out x5_1 p882 q882
                have hw882_5 := hx882_5
                have hw882_4 := hx882_4
                have hw882_3 := hx882_3
                have hw882_2 := hx882_2
                have hw882_1 := hx882_1
                have hw882_0 := hx882_0
                cases e882
                replace hx882_0 := (HB.out.cell (World.block_lt_of_cell? w _ hx882_0)).trans hx882_0
                replace hx882_1 := (HB.out.cell (World.block_lt_of_cell? w _ hx882_1)).trans hx882_1
                replace hx882_2 := (HB.out.cell (World.block_lt_of_cell? w _ hx882_2)).trans hx882_2
                replace hx882_3 := (HB.out.cell (World.block_lt_of_cell? w _ hx882_3)).trans hx882_3
                replace hx882_4 := (HB.out.cell (World.block_lt_of_cell? w _ hx882_4)).trans hx882_4
                replace hx882_5 := (HB.out.cell (World.block_lt_of_cell? w _ hx882_5)).trans hx882_5
                replace p882 := eq_true p882
                replace q882 := eq_true q882
                have p883 : 0 ≤ (x5_1 : Int) := of_decide_eq_true (by first | (with_reducible assumption) | assumption)
                have q883 : x5_1 < (l1.length : Int) := of_decide_eq_true (by first | (with_reducible assumption) | assumption)
                obtain ⟨ad883, e883, hx883_0, hx883_1, hx883_2, hx883_3, hx883_4, hx883_5⟩ := at_T119 HR1.out x5_1 p883 q883
                have hw883_5 := hx883_5
                have hw883_4 := hx883_4
                have hw883_3 := hx883_3
                have hw883_2 := hx883_2
                have hw883_1 := hx883_1
                have hw883_0 := hx883_0
                cases e883
                replace hx883_0 := (HB.out.cell (World.block_lt_of_cell? w _ hx883_0)).trans hx883_0
                replace hx883_1 := (HB.out.cell (World.block_lt_of_cell? w _ hx883_1)).trans hx883_1
                replace hx883_2 := (HB.out.cell (World.block_lt_of_cell? w _ hx883_2)).trans hx883_2
                replace hx883_3 := (HB.out.cell (World.block_lt_of_cell? w _ hx883_3)).trans hx883_3
                replace hx883_4 := (HB.out.cell (World.block_lt_of_cell? w _ hx883_4)).trans hx883_4
                replace hx883_5 := (HB.out.cell (World.block_lt_of_cell? w _ hx883_5)).trans hx883_5
                replace p883 := eq_true p883
                replace q883 := eq_true q883
                refine start_ (n := 10) (S := fun w' => w'.cell? (ad882.add ((x5_1).toNat * 6)) = some (.int .i64 ((rd_T119 l0 x5_1).f0)) ∧ w'.cell? ⟨(ad882.add ((x5_1).toNat * 6)).block, (ad882.add ((x5_1).toNat * 6)).off + 1, none⟩ = some (.int .i64 ((rd_T119 l0 x5_1).f1)) ∧ w'.cell? ⟨(ad882.add ((x5_1).toNat * 6)).block, (ad882.add ((x5_1).toNat * 6)).off + 2, none⟩ = some (.int .i64 ((rd_T119 l0 x5_1).f2)) ∧ w'.cell? ⟨(ad882.add ((x5_1).toNat * 6)).block, (ad882.add ((x5_1).toNat * 6)).off + 3, none⟩ = some (.int .i64 ((rd_T119 l0 x5_1).f3)) ∧ w'.cell? ⟨(ad882.add ((x5_1).toNat * 6)).block, (ad882.add ((x5_1).toNat * 6)).off + 4, none⟩ = some (.int .i64 ((rd_T119 l0 x5_1).f4)) ∧ w'.cell? ⟨(ad882.add ((x5_1).toNat * 6)).block, (ad882.add ((x5_1).toNat * 6)).off + 5, none⟩ = some (.int .i64 ((rd_T119 l0 x5_1).f5)) ∧ w'.cell? (ad883.add ((x5_1).toNat * 6)) = some (.int .i64 ((rd_T119 l1 x5_1).f0)) ∧ w'.cell? ⟨(ad883.add ((x5_1).toNat * 6)).block, (ad883.add ((x5_1).toNat * 6)).off + 1, none⟩ = some (.int .i64 ((rd_T119 l1 x5_1).f1)) ∧ w'.cell? ⟨(ad883.add ((x5_1).toNat * 6)).block, (ad883.add ((x5_1).toNat * 6)).off + 2, none⟩ = some (.int .i64 ((rd_T119 l1 x5_1).f2)) ∧ w'.cell? ⟨(ad883.add ((x5_1).toNat * 6)).block, (ad883.add ((x5_1).toNat * 6)).off + 3, none⟩ = some (.int .i64 ((rd_T119 l1 x5_1).f3)) ∧ w'.cell? ⟨(ad883.add ((x5_1).toNat * 6)).block, (ad883.add ((x5_1).toNat * 6)).off + 4, none⟩ = some (.int .i64 ((rd_T119 l1 x5_1).f4)) ∧ w'.cell? ⟨(ad883.add ((x5_1).toNat * 6)).block, (ad883.add ((x5_1).toNat * 6)).off + 5, none⟩ = some (.int .i64 ((rd_T119 l1 x5_1).f5))) (ds := []) #[false, false, false, false, false, false, false, false, false, false] (by kernel_rfl) rfl rfl ⟨((HB.out.cell (World.block_lt_of_cell? w _ hw882_0)).trans hw882_0), ((HB.out.cell (World.block_lt_of_cell? w _ hw882_1)).trans hw882_1), ((HB.out.cell (World.block_lt_of_cell? w _ hw882_2)).trans hw882_2), ((HB.out.cell (World.block_lt_of_cell? w _ hw882_3)).trans hw882_3), ((HB.out.cell (World.block_lt_of_cell? w _ hw882_4)).trans hw882_4), ((HB.out.cell (World.block_lt_of_cell? w _ hw882_5)).trans hw882_5), ((HB.out.cell (World.block_lt_of_cell? w _ hw883_0)).trans hw883_0), ((HB.out.cell (World.block_lt_of_cell? w _ hw883_1)).trans hw883_1), ((HB.out.cell (World.block_lt_of_cell? w _ hw883_2)).trans hw883_2), ((HB.out.cell (World.block_lt_of_cell? w _ hw883_3)).trans hw883_3), ((HB.out.cell (World.block_lt_of_cell? w _ hw883_4)).trans hw883_4), ((HB.out.cell (World.block_lt_of_cell? w _ hw883_5)).trans hw883_5)⟩ (fun hHeld => ?_); refine with_tabW laws_eqFactS.tab6 laws_eqFactS.bits6 (fun HT_ HW_ => ?_)
                generalize wr.drew = w11 at HB hx882_0 hx882_1 hx882_2 hx882_3 hx882_4 hx882_5 hx883_0 hx883_1 hx883_2 hx883_3 hx883_4 hx883_5 hHeld ⊢
                refine pure_ (i := 0) (N := some 17) (v := ?_) (a' := ?_) #[true, false, false, false, false, false, false, false, false, false] rfl rfl (any_of HT_.out (by kernel_rfl)) (fun _ _ _ h => h) (Or.inl ⟨by rfl, ?_⟩) ?_ ?_
                rotate_left
                · intro w'
                  go_simp
                  with_reducible rfl
                rotate_left
                · simp only [Act.put, List.setIfInBounds_toArray, List.set_cons_zero, List.set_cons_succ, i64_w, i32_w]
                  rfl
                refine pure_ (i := 1) (N := some 18) (v := ?_) (a' := ?_) #[true, true, false, false, false, false, false, false, false, false] rfl rfl (any_of HT_.out (by kernel_rfl)) (fun _ _ _ h => h) (Or.inl ⟨by rfl, ?_⟩) ?_ ?_
                rotate_left
                · intro w'
                  go_simp
                  with_reducible rfl
                rotate_left
                · simp only [Act.put, List.setIfInBounds_toArray, List.set_cons_zero, List.set_cons_succ, i64_w, i32_w]
                  rfl
                refine pure_ (i := 2) (N := some 19) (v := ?_) (a' := ?_) #[true, true, true, false, false, false, false, false, false, false] rfl rfl (any_of HT_.out (by kernel_rfl)) (fun _ _ _ h => h) (Or.inl ⟨by rfl, ?_⟩) ?_ ?_
                rotate_left
                · intro w'
                  go_simp
                  with_reducible rfl
                rotate_left
                · simp only [Act.put, List.setIfInBounds_toArray, List.set_cons_zero, List.set_cons_succ, i64_w, i32_w]
                  rfl
                refine pure_ (i := 4) (N := some 21) (v := ?_) (a' := ?_) #[true, true, true, false, true, false, false, false, false, false] rfl rfl (any_of HT_.out (by kernel_rfl)) (fun _ _ _ h => h) (Or.inl ⟨by rfl, ?_⟩) ?_ ?_
                rotate_left
                · intro w'
                  go_simp
                  with_reducible rfl
                rotate_left
                · simp only [Act.put, List.setIfInBounds_toArray, List.set_cons_zero, List.set_cons_succ, i64_w, i32_w]
                  rfl
                refine pure_ (i := 5) (N := some 22) (v := ?_) (a' := ?_) #[true, true, true, false, true, true, false, false, false, false] rfl rfl (any_of HT_.out (by kernel_rfl)) (fun _ _ _ h => h) (Or.inl ⟨by rfl, ?_⟩) ?_ ?_
                rotate_left
                · intro w'
                  go_simp
                  with_reducible rfl
                rotate_left
                · simp only [Act.put, List.setIfInBounds_toArray, List.set_cons_zero, List.set_cons_succ, i64_w, i32_w]
                  rfl
                refine pure_ (i := 6) (N := some 23) (v := ?_) (a' := ?_) #[true, true, true, false, true, true, true, false, false, false] rfl rfl (any_of HT_.out (by kernel_rfl)) (fun _ _ _ h => h) (Or.inl ⟨by rfl, ?_⟩) ?_ ?_
                rotate_left
                · intro w'
                  go_simp
                  with_reducible rfl
                rotate_left
                · simp only [Act.put, List.setIfInBounds_toArray, List.set_cons_zero, List.set_cons_succ, i64_w, i32_w]
                  rfl
                refine take_ (i := 3) (N := some 20) (v := ?_) (a' := ?_) #[true, true, true, true, true, true, true, false, false, false] rfl rfl (take_ofW HT_.out HW_.out (by kernel_rfl)) (fun _ _ _ h => h) (Or.inl ⟨by rfl, ?_⟩) hHeld ?_ ?_
                rotate_left
                · rintro w' ⟨s0, s1, s2, s3, s4, s5, s6, s7, s8, s9, s10, s11⟩
                  go_simp
                  with_reducible rfl
                rotate_left
                · simp only [Act.put, List.setIfInBounds_toArray, List.set_cons_zero, List.set_cons_succ, i64_w, i32_w]
                  rfl
                refine take_ (i := 7) (N := some 24) (v := ?_) (a' := ?_) #[true, true, true, true, true, true, true, true, false, false] rfl rfl (take_ofW HT_.out HW_.out (by kernel_rfl)) (fun _ _ _ h => h) (Or.inl ⟨by rfl, ?_⟩) hHeld ?_ ?_
                rotate_left
                · rintro w' ⟨s0, s1, s2, s3, s4, s5, s6, s7, s8, s9, s10, s11⟩
                  go_simp
                  with_reducible rfl
                rotate_left
                · simp only [Act.put, List.setIfInBounds_toArray, List.set_cons_zero, List.set_cons_succ, i64_w, i32_w]
                  rfl
                refine one_ (i := 8) (N := some 25) #[true, true, true, true, true, true, true, true, true, false] rfl rfl (one_of HT_.out (by kernel_rfl)) (by decide) (fun K hK => ?_)
                refine goes_ Try.func154 (by kernel_rfl) rfl #[.agg #[.int .i64 ((rd_T119 l0 x5_1).f0), .int .i64 ((rd_T119 l0 x5_1).f1), .int .i64 ((rd_T119 l0 x5_1).f2), .int .i64 ((rd_T119 l0 x5_1).f3), .int .i64 ((rd_T119 l0 x5_1).f4), .int .i64 ((rd_T119 l0 x5_1).f5)], .agg #[.int .i64 ((rd_T119 l1 x5_1).f0), .int .i64 ((rd_T119 l1 x5_1).f1), .int .i64 ((rd_T119 l1 x5_1).f2), .int .i64 ((rd_T119 l1 x5_1).f3), .int .i64 ((rd_T119 l1 x5_1).f4), .int .i64 ((rd_T119 l1 x5_1).f5)]] (by rfl) rfl rfl (by (try simp only [List.map_toArray, List.map_cons, List.map_nil]); first | done | rfl | (simp only [List.length_drop, List.length_take]; rfl)) ?_
                with_reducible refine (laws_eqFact.calls ((rd_T119 l0 x5_1).f0) ((rd_T119 l0 x5_1).f1) ((rd_T119 l0 x5_1).f2) ((rd_T119 l0 x5_1).f3) ((rd_T119 l0 x5_1).f4) ((rd_T119 l0 x5_1).f5) ((rd_T119 l1 x5_1).f0) ((rd_T119 l1 x5_1).f1) ((rd_T119 l1 x5_1).f2) ((rd_T119 l1 x5_1).f3) ((rd_T119 l1 x5_1).f4) ((rd_T119 l1 x5_1).f5) false _ A7.out).mono ?_
                rintro e w12 ⟨rfl, hb⟩
                refine ⟨_, rfl, ?_⟩
                have n0_ := Aside0.mk (below_step (bb HB.out) hb)
                clear HB
                have HB := n0_
                clear n0_
                (try clear hb)
                (try clear hb2)
                (try clear hk)
                (try clear hi)
                refine hK.out _ _ ⟨((HB.out.cell (World.block_lt_of_cell? w _ hw882_0)).trans hw882_0), ((HB.out.cell (World.block_lt_of_cell? w _ hw882_1)).trans hw882_1), ((HB.out.cell (World.block_lt_of_cell? w _ hw882_2)).trans hw882_2), ((HB.out.cell (World.block_lt_of_cell? w _ hw882_3)).trans hw882_3), ((HB.out.cell (World.block_lt_of_cell? w _ hw882_4)).trans hw882_4), ((HB.out.cell (World.block_lt_of_cell? w _ hw882_5)).trans hw882_5), ((HB.out.cell (World.block_lt_of_cell? w _ hw883_0)).trans hw883_0), ((HB.out.cell (World.block_lt_of_cell? w _ hw883_1)).trans hw883_1), ((HB.out.cell (World.block_lt_of_cell? w _ hw883_2)).trans hw883_2), ((HB.out.cell (World.block_lt_of_cell? w _ hw883_3)).trans hw883_3), ((HB.out.cell (World.block_lt_of_cell? w _ hw883_4)).trans hw883_4), ((HB.out.cell (World.block_lt_of_cell? w _ hw883_5)).trans hw883_5)⟩ (fun hHeld => ?_)
                clear hK K
                refine norm_ (a' := ?_) ?_ ?_
                rotate_left
                · show Act.put _ (some 25) _ = _
                  simp only [Act.put, List.setIfInBounds_toArray, List.set_cons_zero, List.set_cons_succ, i64_w, i32_w]
                  rfl
                refine pure_ (i := 9) (N := some 26) (v := ?_) (a' := ?_) #[true, true, true, true, true, true, true, true, true, true] rfl rfl (any_of HT_.out (by kernel_rfl)) (fun _ _ _ h => h) (Or.inl ⟨by rfl, ?_⟩) ?_ ?_
                rotate_left
                · intro w'
                  go_simp
                  with_reducible rfl
                rotate_left
                · simp only [Act.put, List.setIfInBounds_toArray, List.set_cons_zero, List.set_cons_succ, i64_w, i32_w]
                  rfl
                refine done_ (done_of HT_.out (by kernel_rfl)) ?_
                try go_wp2
                go_ret
                exact ⟨by first | rfl | (simp [errW_none, errW_some] <;> rfl) | (simp [*, errW_none, errW_some] <;> rfl), bb HB.out⟩
            · rw [if_neg c6] at H
              exact absurd H (by simp)
          · rw [if_neg c5] at H
            exact absurd H (by simp)
        · rw [if_neg c4] at H
          have c4b0 : decide (x5_1 < (l0.length : Int)) = false := decide_eq_false c4
          clear c4
          obtain rfl := Option.some.inj H
          go_wp2
          go_ret
          exact ⟨by first | rfl | (simp [errW_none, errW_some] <;> rfl) | (simp [*, errW_none, errW_some] <;> rfl), bb HB.out⟩
  · rw [if_neg c3] at H
    have c3b0 : ((l0.length : Int) == (l1.length : Int)) = false := beq_eq_false_iff_ne.mpr c3
    have c3b1 : ((l0.length : Int) != (l1.length : Int)) = true := bne_iff_ne.mpr c3
    have c3b2 : (l0.length == l1.length) = false := by first | simpa using c3 | (simp at c3 ⊢; omega)
    obtain rfl := Option.some.inj H
    go_enter Try.func72, Try.ntmps72
    go_wp2
    go_ret
    exact ⟨by first | rfl | (simp [errW_none, errW_some] <;> rfl) | (simp [*, errW_none, errW_some] <;> rfl), bb HB.out⟩
end Go.Proofs.Ytbfochojhmggfaa.R
end
section
namespace Go.Proofs.Ytbfochojhmggfaa.R
open Go.RowKit Go.Proofs.YtbfochojhmggfaaW.PrintWords Go.Proofs.YtbfochojhmggfaaW.PrintLast Go.Proofs.YtbfochojhmggfaaW.PrintMore
attribute [local go_sem] max2_int min2_int max_two min_two max_three min_three max_four min_four
set_option linter.unusedVariables false
set_option linter.unusedSimpArgs false
def laws_FnExactLeafHolds.f (k : Nat) (l0 : List (S178)) (l1 : List (S189)) (a2_0 : Int) (a2_1 : Int) (a2_2 : Int) (l2_3 : List (S100)) (a3_0 : Int) (a3_1 : Int) (a3_2 : Int) (a3_3 : Int) (a3_4 : Int) (a3_5 : Int) : Option (Bool) := (laws_szIncludesS.f l0 1048576).bind fun t887 => (if t887 < 0 then (some true) else ((laws_szFactS.f l1 t887).bind fun t888 => (if t888 < 0 then (some true) else ((laws_szCond.f k a2_0 a2_1 a2_2 l2_3 t888).bind fun t889 => (if t889 < 0 then (some true) else ((laws_toIncludesS.f k l0).bind fun t890 => ((laws_toFactS.f k l1).bind fun t893 => ((laws_toCond.f k a2_0 a2_1 a2_2 l2_3).bind fun bt896 => ((laws_toRequest.f a3_0 a3_1 a3_2 a3_3 a3_4 a3_5).bind fun bt902 => ((spec_LeafHolds.f k t890 t893 bt896.1 bt896.2.1 bt896.2.2.1 bt896.2.2.2 bt902.1 bt902.2.1 bt902.2.2.1 bt902.2.2.2.1 bt902.2.2.2.2.1 bt902.2.2.2.2.2).bind fun t908 => ((laws_toIncludesS.f k l0).bind fun t909 => ((laws_toFactS.f k l1).bind fun t912 => ((laws_toCond.f k a2_0 a2_1 a2_2 l2_3).bind fun bt915 => ((laws_toRequest.f a3_0 a3_1 a3_2 a3_3 a3_4 a3_5).bind fun bt922 => ((impl_LeafHolds.f k t909 t912 bt915.1 bt915.2.1 bt915.2.2.1 bt915.2.2.2 bt922.1 bt922.2.1 bt922.2.2.1 bt922.2.2.2.1 bt922.2.2.2.2.1 bt922.2.2.2.2.2).bind fun t928 => (if (t928 != t908) = true then (none) else ((laws_toIncludesS.f k l0).bind fun t929 => ((laws_eqIncludesS.f k t909 t929).bind fun t932 => (if t932 = true then ((laws_toFactS.f k l1).bind fun t933 => ((laws_eqFactS.f k t912 t933).bind fun t936 => (if t936 = true then ((laws_toCond.f k a2_0 a2_1 a2_2 l2_3).bind fun bt937 => ((laws_eqCond.f k bt915.1 bt915.2.1 bt915.2.2.1 bt915.2.2.2 bt937.1 bt937.2.1 bt937.2.2.1 bt937.2.2.2).bind fun t943 => (if t943 = true then (some true) else (none)))) else (none)))) else (none))))))))))))))))))))
def laws_FnExactLeafHolds.T11 : Bool × List (List Nat × List Nat) := (true, [([], []), ([0], [0]), ([], []), ([2, 1], [2]), ([], []), ([4, 3], [4]), ([], []), ([6, 5], [6]), ([1, 3, 5, 7, 7], [1, 3, 5, 7]), ([8, 8, 0, 1, 2, 3, 4, 5, 6, 7, 8], [8])])
def laws_FnExactLeafHolds.B11 : List Nat := [0, 1, 0, 7, 0, 31, 0, 127, 255, 511]
theorem laws_FnExactLeafHolds.tab11 : rtab .any (opsOf Try.f10 11) = laws_FnExactLeafHolds.T11 := by kernel_rfl
theorem laws_FnExactLeafHolds.bits11 : waitsOk laws_FnExactLeafHolds.T11.2 laws_FnExactLeafHolds.B11 = true := by kernel_rfl
set_option maxHeartbeats 8000000 in
set_option maxRecDepth 100000 in
theorem laws_FnExactLeafHolds.calls (k : Nat) (A0 : Option Addr) (c0 : Nat) (l0 : List (S178)) (A1 : Option Addr) (c1 : Nat) (l1 : List (S189)) (a2_0 : Int) (a2_1 : Int) (a2_2 : Int) (A2_3 : Option Addr) (c2_3 : Nat) (l2_3 : List (S100)) (a3_0 : Int) (a3_1 : Int) (a3_2 : Int) (a3_3 : Int) (a3_4 : Int) (a3_5 : Int) (r : Bool) (w : World) (hr0 : Kd.C k178 w A0 l0.length l0) (hc0 : l0.length ≤ c0) (hr1 : Kd.C k189 w A1 l1.length l1) (hc1 : l1.length ≤ c1) (hr2_3 : Kd.C k100 w A2_3 l2_3.length l2_3) (hc2_3 : l2_3.length ≤ c2_3) (h : laws_FnExactLeafHolds.f k l0 l1 a2_0 a2_1 a2_2 l2_3 a3_0 a3_1 a3_2 a3_3 a3_4 a3_5 = some r) :
    Calls Try.prog 10 #[.slice A0 l0.length c0, .slice A1 l1.length c1, .agg #[.int .i64 a2_0, .int .i64 a2_1, .int .i64 a2_2, .slice A2_3 l2_3.length c2_3], .agg #[.int .i64 a3_0, .int .i64 a3_1, .int .i64 a3_2, .int .i64 a3_3, .int .i64 a3_4, .int .i64 a3_5]] w fun e w' => e = .returned (.bool r) ∧ Below w.heap.size w w' := by
  have hu100 := Try.underlying100
  have hu102 := Try.underlying102
  have hu109 := Try.underlying109
  have HR0 := Aside0.mk hr0
  have HC0 := Aside0.mk hc0
  clear hr0 hc0
  have HR1 := Aside0.mk hr1
  have HC1 := Aside0.mk hc1
  clear hr1 hc1
  have HR2_3 := Aside0.mk hr2_3
  have HC2_3 := Aside0.mk hc2_3
  clear hr2_3 hc2_3
  have HB := Aside0.mk (Below.refl w.heap.size w)
  have H : ((laws_szIncludesS.f l0 1048576).bind fun t887 => (if t887 < 0 then (some true) else ((laws_szFactS.f l1 t887).bind fun t888 => (if t888 < 0 then (some true) else ((laws_szCond.f k a2_0 a2_1 a2_2 l2_3 t888).bind fun t889 => (if t889 < 0 then (some true) else ((laws_toIncludesS.f k l0).bind fun t890 => ((laws_toFactS.f k l1).bind fun t893 => ((laws_toCond.f k a2_0 a2_1 a2_2 l2_3).bind fun bt896 => ((laws_toRequest.f a3_0 a3_1 a3_2 a3_3 a3_4 a3_5).bind fun bt902 => ((spec_LeafHolds.f k t890 t893 bt896.1 bt896.2.1 bt896.2.2.1 bt896.2.2.2 bt902.1 bt902.2.1 bt902.2.2.1 bt902.2.2.2.1 bt902.2.2.2.2.1 bt902.2.2.2.2.2).bind fun t908 => ((laws_toIncludesS.f k l0).bind fun t909 => ((laws_toFactS.f k l1).bind fun t912 => ((laws_toCond.f k a2_0 a2_1 a2_2 l2_3).bind fun bt915 => ((laws_toRequest.f a3_0 a3_1 a3_2 a3_3 a3_4 a3_5).bind fun bt922 => ((impl_LeafHolds.f k t909 t912 bt915.1 bt915.2.1 bt915.2.2.1 bt915.2.2.2 bt922.1 bt922.2.1 bt922.2.2.1 bt922.2.2.2.1 bt922.2.2.2.2.1 bt922.2.2.2.2.2).bind fun t928 => (if (t928 != t908) = true then (none) else ((laws_toIncludesS.f k l0).bind fun t929 => ((laws_eqIncludesS.f k t909 t929).bind fun t932 => (if t932 = true then ((laws_toFactS.f k l1).bind fun t933 => ((laws_eqFactS.f k t912 t933).bind fun t936 => (if t936 = true then ((laws_toCond.f k a2_0 a2_1 a2_2 l2_3).bind fun bt937 => ((laws_eqCond.f k bt915.1 bt915.2.1 bt915.2.2.1 bt915.2.2.2 bt937.1 bt937.2.1 bt937.2.2.1 bt937.2.2.2).bind fun t943 => (if t943 = true then (some true) else (none)))) else (none)))) else (none))))))))))))))))))))) = some r := h
  clear h
  replace H := Option.bind_eq_some_iff.mp H
  obtain ⟨t887, A50, H⟩ := H
  replace H : (if t887 < 0 then (some true) else ((laws_szFactS.f l1 t887).bind fun t888 => (if t888 < 0 then (some true) else ((laws_szCond.f k a2_0 a2_1 a2_2 l2_3 t888).bind fun t889 => (if t889 < 0 then (some true) else ((laws_toIncludesS.f k l0).bind fun t890 => ((laws_toFactS.f k l1).bind fun t893 => ((laws_toCond.f k a2_0 a2_1 a2_2 l2_3).bind fun bt896 => ((laws_toRequest.f a3_0 a3_1 a3_2 a3_3 a3_4 a3_5).bind fun bt902 => ((spec_LeafHolds.f k t890 t893 bt896.1 bt896.2.1 bt896.2.2.1 bt896.2.2.2 bt902.1 bt902.2.1 bt902.2.2.1 bt902.2.2.2.1 bt902.2.2.2.2.1 bt902.2.2.2.2.2).bind fun t908 => ((laws_toIncludesS.f k l0).bind fun t909 => ((laws_toFactS.f k l1).bind fun t912 => ((laws_toCond.f k a2_0 a2_1 a2_2 l2_3).bind fun bt915 => ((laws_toRequest.f a3_0 a3_1 a3_2 a3_3 a3_4 a3_5).bind fun bt922 => ((impl_LeafHolds.f k t909 t912 bt915.1 bt915.2.1 bt915.2.2.1 bt915.2.2.2 bt922.1 bt922.2.1 bt922.2.2.1 bt922.2.2.2.1 bt922.2.2.2.2.1 bt922.2.2.2.2.2).bind fun t928 => (if (t928 != t908) = true then (none) else ((laws_toIncludesS.f k l0).bind fun t929 => ((laws_eqIncludesS.f k t909 t929).bind fun t932 => (if t932 = true then ((laws_toFactS.f k l1).bind fun t933 => ((laws_eqFactS.f k t912 t933).bind fun t936 => (if t936 = true then ((laws_toCond.f k a2_0 a2_1 a2_2 l2_3).bind fun bt937 => ((laws_eqCond.f k bt915.1 bt915.2.1 bt915.2.2.1 bt915.2.2.2 bt937.1 bt937.2.1 bt937.2.2.1 bt937.2.2.2).bind fun t943 => (if t943 = true then (some true) else (none)))) else (none)))) else (none)))))))))))))))))))) = some r := H
  have A5 := Aside0.mk A50
  clear A50
  by_cases c6 : t887 < 0
  · rw [if_pos c6] at H
    have c6b0 : decide (t887 < 0) = true := decide_eq_true c6
    clear c6
    obtain rfl := Option.some.inj H
    go_enter Try.func10, Try.ntmps10
    go_wp2_with (first | ((with_reducible refine gate_dst (N := 6) rfl ?_); refine box_event ?hg (N := 6) ?hd (cs := #[.int .i64 a2_0, .int .i64 a2_1, .int .i64 a2_2, .slice A2_3 l2_3.length c2_3]) (t := 100) ?hr ?_; (case hd => rfl); (case hg => rfl); (case hr => first | (go_simp; done) | (go_simp; rfl)); intro gb885 hg w7 hbox hb; have n0_ := Aside0.mk (below_step (bb HB.out) hb); have n1_ := Aside0.mk (hbox); have n2_ := Aside0.mk ((by rw [hg]; exact (below_size (bb HB.out)) : w.heap.size ≤ gb885)); have n3_ := Aside0.mk ((by rw [hg]; exact (below_size (bb HB.out)) : w.heap.size ≤ gb885)); clear HB; have HB := n0_; have BK885 := n1_; have GW885 := n2_; have GE885 := n3_; clear n0_ n1_ n2_ n3_; clear hb hbox hg) | ((with_reducible refine gate_dst (N := 7) rfl ?_); refine box_event ?hg (N := 7) ?hd (cs := #[.int .i64 a3_0, .int .i64 a3_1, .int .i64 a3_2, .int .i64 a3_3, .int .i64 a3_4, .int .i64 a3_5]) (t := 102) ?hr ?_; (case hd => rfl); (case hg => rfl); (case hr => first | (go_simp; done) | (go_simp; rfl)); intro gb886 hg w8 hbox hb; have n0_ := Aside0.mk (blk_below (rb BK885.out) hb); have n1_ := Aside0.mk (below_step (bb HB.out) hb); have n2_ := Aside0.mk (hbox); have n3_ := Aside0.mk ((by rw [hg]; exact (below_size (bb HB.out)) : w.heap.size ≤ gb886)); have n4_ := Aside0.mk ((by rw [hg]; exact (below_size (bb HB.out)) : w.heap.size ≤ gb886)); have n5_ := Aside0.mk ((by rw [hg]; exact Nat.ne_of_lt (blk_lt (g := gb885) (o := .cells #[.int .i64 a2_0, .int .i64 a2_1, .int .i64 a2_2, .slice A2_3 l2_3.length c2_3] 100 (0, 0)) (rb BK885.out)) : gb885 ≠ gb886)); have n6_ := Aside0.mk ((by rw [hg]; exact Nat.ne_of_gt (blk_lt (g := gb885) (o := .cells #[.int .i64 a2_0, .int .i64 a2_1, .int .i64 a2_2, .slice A2_3 l2_3.length c2_3] 100 (0, 0)) (rb BK885.out)) : gb886 ≠ gb885)); clear BK885; clear HB; have BK885 := n0_; have HB := n1_; have BK886 := n2_; have GW886 := n3_; have GE886 := n4_; have NB885_886 := n5_; have NB886_885 := n6_; clear n0_ n1_ n2_ n3_ n4_ n5_ n6_; clear hb hbox hg) | ((with_reducible refine gate_callee (f := 46) rfl ?_); refine gm (some 17) Try.func46 #[.slice A0 l0.length c0, .int .i64 1048576] ?_; (with_reducible refine (laws_szIncludesS.calls _ _ l0 1048576 t887 _ ?side1 ?side2 A5.out).mono ?_); (case side1 => repeat (first | exact (Kd.C_below HR0.out HB.out) | (with_reducible refine Kd.C_alloc ?_ _) | (with_reducible refine Kd.C_drewN ?_ _) | (with_reducible refine Kd.C_drew ?_))); (case side2 => exact HC0.out); rintro e w' ⟨rfl, ⟨nd, rfl⟩⟩; refine ⟨_, rfl, ?_⟩))
    go_ret
    exact ⟨by first | rfl | (simp [errW_none, errW_some] <;> rfl) | (simp [*, errW_none, errW_some] <;> rfl), bb HB.out⟩
  · rw [if_neg c6] at H
    have c6b0 : decide (t887 < 0) = false := decide_eq_false c6
    clear c6
    replace H := Option.bind_eq_some_iff.mp H
    obtain ⟨t888, A90, H⟩ := H
    replace H : (if t888 < 0 then (some true) else ((laws_szCond.f k a2_0 a2_1 a2_2 l2_3 t888).bind fun t889 => (if t889 < 0 then (some true) else ((laws_toIncludesS.f k l0).bind fun t890 => ((laws_toFactS.f k l1).bind fun t893 => ((laws_toCond.f k a2_0 a2_1 a2_2 l2_3).bind fun bt896 => ((laws_toRequest.f a3_0 a3_1 a3_2 a3_3 a3_4 a3_5).bind fun bt902 => ((spec_LeafHolds.f k t890 t893 bt896.1 bt896.2.1 bt896.2.2.1 bt896.2.2.2 bt902.1 bt902.2.1 bt902.2.2.1 bt902.2.2.2.1 bt902.2.2.2.2.1 bt902.2.2.2.2.2).bind fun t908 => ((laws_toIncludesS.f k l0).bind fun t909 => ((laws_toFactS.f k l1).bind fun t912 => ((laws_toCond.f k a2_0 a2_1 a2_2 l2_3).bind fun bt915 => ((laws_toRequest.f a3_0 a3_1 a3_2 a3_3 a3_4 a3_5).bind fun bt922 => ((impl_LeafHolds.f k t909 t912 bt915.1 bt915.2.1 bt915.2.2.1 bt915.2.2.2 bt922.1 bt922.2.1 bt922.2.2.1 bt922.2.2.2.1 bt922.2.2.2.2.1 bt922.2.2.2.2.2).bind fun t928 => (if (t928 != t908) = true then (none) else ((laws_toIncludesS.f k l0).bind fun t929 => ((laws_eqIncludesS.f k t909 t929).bind fun t932 => (if t932 = true then ((laws_toFactS.f k l1).bind fun t933 => ((laws_eqFactS.f k t912 t933).bind fun t936 => (if t936 = true then ((laws_toCond.f k a2_0 a2_1 a2_2 l2_3).bind fun bt937 => ((laws_eqCond.f k bt915.1 bt915.2.1 bt915.2.2.1 bt915.2.2.2 bt937.1 bt937.2.1 bt937.2.2.1 bt937.2.2.2).bind fun t943 => (if t943 = true then (some true) else (none)))) else (none)))) else (none)))))))))))))))))) = some r := H
    have A9 := Aside0.mk A90
    clear A90
    by_cases c10 : t888 < 0
    · rw [if_pos c10] at H
      have c10b0 : decide (t888 < 0) = true := decide_eq_true c10
      clear c10
      obtain rfl := Option.some.inj H
      go_enter Try.func10, Try.ntmps10
      go_wp2_with (first | ((with_reducible refine gate_dst (N := 6) rfl ?_); refine box_event ?hg (N := 6) ?hd (cs := #[.int .i64 a2_0, .int .i64 a2_1, .int .i64 a2_2, .slice A2_3 l2_3.length c2_3]) (t := 100) ?hr ?_; (case hd => rfl); (case hg => rfl); (case hr => first | (go_simp; done) | (go_simp; rfl)); intro gb885 hg w11 hbox hb; have n0_ := Aside0.mk (below_step (bb HB.out) hb); have n1_ := Aside0.mk (hbox); have n2_ := Aside0.mk ((by rw [hg]; exact (below_size (bb HB.out)) : w.heap.size ≤ gb885)); have n3_ := Aside0.mk ((by rw [hg]; exact (below_size (bb HB.out)) : w.heap.size ≤ gb885)); clear HB; have HB := n0_; have BK885 := n1_; have GW885 := n2_; have GE885 := n3_; clear n0_ n1_ n2_ n3_; clear hb hbox hg) | ((with_reducible refine gate_dst (N := 7) rfl ?_); refine box_event ?hg (N := 7) ?hd (cs := #[.int .i64 a3_0, .int .i64 a3_1, .int .i64 a3_2, .int .i64 a3_3, .int .i64 a3_4, .int .i64 a3_5]) (t := 102) ?hr ?_; (case hd => rfl); (case hg => rfl); (case hr => first | (go_simp; done) | (go_simp; rfl)); intro gb886 hg w12 hbox hb; have n0_ := Aside0.mk (blk_below (rb BK885.out) hb); have n1_ := Aside0.mk (below_step (bb HB.out) hb); have n2_ := Aside0.mk (hbox); have n3_ := Aside0.mk ((by rw [hg]; exact (below_size (bb HB.out)) : w.heap.size ≤ gb886)); have n4_ := Aside0.mk ((by rw [hg]; exact (below_size (bb HB.out)) : w.heap.size ≤ gb886)); have n5_ := Aside0.mk ((by rw [hg]; exact Nat.ne_of_lt (blk_lt (g := gb885) (o := .cells #[.int .i64 a2_0, .int .i64 a2_1, .int .i64 a2_2, .slice A2_3 l2_3.length c2_3] 100 (0, 0)) (rb BK885.out)) : gb885 ≠ gb886)); have n6_ := Aside0.mk ((by rw [hg]; exact Nat.ne_of_gt (blk_lt (g := gb885) (o := .cells #[.int .i64 a2_0, .int .i64 a2_1, .int .i64 a2_2, .slice A2_3 l2_3.length c2_3] 100 (0, 0)) (rb BK885.out)) : gb886 ≠ gb885)); clear BK885; clear HB; have BK885 := n0_; have HB := n1_; have BK886 := n2_; have GW886 := n3_; have GE886 := n4_; have NB885_886 := n5_; have NB886_885 := n6_; clear n0_ n1_ n2_ n3_ n4_ n5_ n6_; clear hb hbox hg) | ((with_reducible refine gate_callee (f := 46) rfl ?_); refine gm (some 17) Try.func46 #[.slice A0 l0.length c0, .int .i64 1048576] ?_; (with_reducible refine (laws_szIncludesS.calls _ _ l0 1048576 t887 _ ?side1 ?side2 A5.out).mono ?_); (case side1 => repeat (first | exact (Kd.C_below HR0.out HB.out) | (with_reducible refine Kd.C_alloc ?_ _) | (with_reducible refine Kd.C_drewN ?_ _) | (with_reducible refine Kd.C_drew ?_))); (case side2 => exact HC0.out); rintro e w' ⟨rfl, ⟨nd, rfl⟩⟩; refine ⟨_, rfl, ?_⟩) | ((with_reducible refine gate_callee (f := 65) rfl ?_); refine gm (some 22) Try.func65 #[.slice A1 l1.length c1, .int .i64 t887] ?_; (with_reducible refine (laws_szFactS.calls _ _ l1 t887 t888 _ ?side1 ?side2 A9.out).mono ?_); (case side1 => repeat (first | exact (Kd.C_below HR1.out (bb HB.out)) | (with_reducible refine Kd.C_alloc ?_ _) | (with_reducible refine Kd.C_drewN ?_ _) | (with_reducible refine Kd.C_drew ?_))); (case side2 => exact HC1.out); rintro e w' ⟨rfl, ⟨nd, rfl⟩⟩; refine ⟨_, rfl, ?_⟩))
      go_ret
      exact ⟨by first | rfl | (simp [errW_none, errW_some] <;> rfl) | (simp [*, errW_none, errW_some] <;> rfl), bb HB.out⟩
    · rw [if_neg c10] at H
      have c10b0 : decide (t888 < 0) = false := decide_eq_false c10
      clear c10
      replace H := Option.bind_eq_some_iff.mp H
      obtain ⟨t889, A130, H⟩ := H
      replace H : (if t889 < 0 then (some true) else ((laws_toIncludesS.f k l0).bind fun t890 => ((laws_toFactS.f k l1).bind fun t893 => ((laws_toCond.f k a2_0 a2_1 a2_2 l2_3).bind fun bt896 => ((laws_toRequest.f a3_0 a3_1 a3_2 a3_3 a3_4 a3_5).bind fun bt902 => ((spec_LeafHolds.f k t890 t893 bt896.1 bt896.2.1 bt896.2.2.1 bt896.2.2.2 bt902.1 bt902.2.1 bt902.2.2.1 bt902.2.2.2.1 bt902.2.2.2.2.1 bt902.2.2.2.2.2).bind fun t908 => ((laws_toIncludesS.f k l0).bind fun t909 => ((laws_toFactS.f k l1).bind fun t912 => ((laws_toCond.f k a2_0 a2_1 a2_2 l2_3).bind fun bt915 => ((laws_toRequest.f a3_0 a3_1 a3_2 a3_3 a3_4 a3_5).bind fun bt922 => ((impl_LeafHolds.f k t909 t912 bt915.1 bt915.2.1 bt915.2.2.1 bt915.2.2.2 bt922.1 bt922.2.1 bt922.2.2.1 bt922.2.2.2.1 bt922.2.2.2.2.1 bt922.2.2.2.2.2).bind fun t928 => (if (t928 != t908) = true then (none) else ((laws_toIncludesS.f k l0).bind fun t929 => ((laws_eqIncludesS.f k t909 t929).bind fun t932 => (if t932 = true then ((laws_toFactS.f k l1).bind fun t933 => ((laws_eqFactS.f k t912 t933).bind fun t936 => (if t936 = true then ((laws_toCond.f k a2_0 a2_1 a2_2 l2_3).bind fun bt937 => ((laws_eqCond.f k bt915.1 bt915.2.1 bt915.2.2.1 bt915.2.2.2 bt937.1 bt937.2.1 bt937.2.2.1 bt937.2.2.2).bind fun t943 => (if t943 = true then (some true) else (none)))) else (none)))) else (none)))))))))))))))) = some r := H
      have A13 := Aside0.mk A130
      clear A130
      by_cases c14 : t889 < 0
      · rw [if_pos c14] at H
        have c14b0 : decide (t889 < 0) = true := decide_eq_true c14
        clear c14
        obtain rfl := Option.some.inj H
        go_enter Try.func10, Try.ntmps10
        go_wp2_with (first | ((with_reducible refine gate_dst (N := 6) rfl ?_); refine box_event ?hg (N := 6) ?hd (cs := #[.int .i64 a2_0, .int .i64 a2_1, .int .i64 a2_2, .slice A2_3 l2_3.length c2_3]) (t := 100) ?hr ?_; (case hd => rfl); (case hg => rfl); (case hr => first | (go_simp; done) | (go_simp; rfl)); intro gb885 hg w15 hbox hb; have n0_ := Aside0.mk (below_step (bb HB.out) hb); have n1_ := Aside0.mk (hbox); have n2_ := Aside0.mk ((by rw [hg]; exact (below_size (bb HB.out)) : w.heap.size ≤ gb885)); have n3_ := Aside0.mk ((by rw [hg]; exact (below_size (bb HB.out)) : w.heap.size ≤ gb885)); clear HB; have HB := n0_; have BK885 := n1_; have GW885 := n2_; have GE885 := n3_; clear n0_ n1_ n2_ n3_; clear hb hbox hg) | ((with_reducible refine gate_dst (N := 7) rfl ?_); refine box_event ?hg (N := 7) ?hd (cs := #[.int .i64 a3_0, .int .i64 a3_1, .int .i64 a3_2, .int .i64 a3_3, .int .i64 a3_4, .int .i64 a3_5]) (t := 102) ?hr ?_; (case hd => rfl); (case hg => rfl); (case hr => first | (go_simp; done) | (go_simp; rfl)); intro gb886 hg w16 hbox hb; have n0_ := Aside0.mk (blk_below (rb BK885.out) hb); have n1_ := Aside0.mk (below_step (bb HB.out) hb); have n2_ := Aside0.mk (hbox); have n3_ := Aside0.mk ((by rw [hg]; exact (below_size (bb HB.out)) : w.heap.size ≤ gb886)); have n4_ := Aside0.mk ((by rw [hg]; exact (below_size (bb HB.out)) : w.heap.size ≤ gb886)); have n5_ := Aside0.mk ((by rw [hg]; exact Nat.ne_of_lt (blk_lt (g := gb885) (o := .cells #[.int .i64 a2_0, .int .i64 a2_1, .int .i64 a2_2, .slice A2_3 l2_3.length c2_3] 100 (0, 0)) (rb BK885.out)) : gb885 ≠ gb886)); have n6_ := Aside0.mk ((by rw [hg]; exact Nat.ne_of_gt (blk_lt (g := gb885) (o := .cells #[.int .i64 a2_0, .int .i64 a2_1, .int .i64 a2_2, .slice A2_3 l2_3.length c2_3] 100 (0, 0)) (rb BK885.out)) : gb886 ≠ gb885)); clear BK885; clear HB; have BK885 := n0_; have HB := n1_; have BK886 := n2_; have GW886 := n3_; have GE886 := n4_; have NB885_886 := n5_; have NB886_885 := n6_; clear n0_ n1_ n2_ n3_ n4_ n5_ n6_; clear hb hbox hg) | ((with_reducible refine gate_callee (f := 46) rfl ?_); refine gm (some 17) Try.func46 #[.slice A0 l0.length c0, .int .i64 1048576] ?_; (with_reducible refine (laws_szIncludesS.calls _ _ l0 1048576 t887 _ ?side1 ?side2 A5.out).mono ?_); (case side1 => repeat (first | exact (Kd.C_below HR0.out HB.out) | (with_reducible refine Kd.C_alloc ?_ _) | (with_reducible refine Kd.C_drewN ?_ _) | (with_reducible refine Kd.C_drew ?_))); (case side2 => exact HC0.out); rintro e w' ⟨rfl, ⟨nd, rfl⟩⟩; refine ⟨_, rfl, ?_⟩) | ((with_reducible refine gate_callee (f := 65) rfl ?_); refine gm (some 22) Try.func65 #[.slice A1 l1.length c1, .int .i64 t887] ?_; (with_reducible refine (laws_szFactS.calls _ _ l1 t887 t888 _ ?side1 ?side2 A9.out).mono ?_); (case side1 => repeat (first | exact (Kd.C_below HR1.out (bb HB.out)) | (with_reducible refine Kd.C_alloc ?_ _) | (with_reducible refine Kd.C_drewN ?_ _) | (with_reducible refine Kd.C_drew ?_))); (case side2 => exact HC1.out); rintro e w' ⟨rfl, ⟨nd, rfl⟩⟩; refine ⟨_, rfl, ?_⟩; have hnb17 := NB885_886.out; have hnc17 := NB886_885.out; have hcz18_0 := cz BK885.out 0 (.int .i64 a2_0); have hcz18_1 := cz BK885.out 1 (.int .i64 a2_1); have hcz18_2 := cz BK885.out 2 (.int .i64 a2_2); have hcz18_3 := cz BK885.out 3 (.slice A2_3 l2_3.length c2_3); have hfz18_0 := blk_frozen BK885.out 0; have hfz18_1 := blk_frozen BK885.out 1; have hfz18_2 := blk_frozen BK885.out 2; have hfz18_3 := blk_frozen BK885.out 3) | ((with_reducible refine gate_callee (f := 66) rfl ?_); refine gm (some 27) Try.func66 #[.agg #[.int .i64 a2_0, .int .i64 a2_1, .int .i64 a2_2, .slice A2_3 l2_3.length c2_3], .int .i64 t888] ?_; (with_reducible refine (laws_szCond.calls k a2_0 a2_1 a2_2 _ _ l2_3 t888 t889 _ ?side1 ?side2 A13.out).mono ?_); (case side1 => repeat (first | exact (Kd.C_below HR2_3.out (bb HB.out)) | (with_reducible refine Kd.C_alloc ?_ _) | (with_reducible refine Kd.C_drewN ?_ _) | (with_reducible refine Kd.C_drew ?_))); (case side2 => exact HC2_3.out); rintro e w19 ⟨rfl, hb⟩; refine ⟨_, rfl, ?_⟩; have n0_ := Aside0.mk (blk_below (rb BK885.out) hb); have n1_ := Aside0.mk (blk_below (rb BK886.out) hb); have n2_ := Aside0.mk (below_step (bb HB.out) hb); clear BK885; clear BK886; clear HB; have BK885 := n0_; have BK886 := n1_; have HB := n2_; clear n0_ n1_ n2_; (try clear hb); (try clear hb2); (try clear hk); (try clear hi)))
        go_ret
        exact ⟨by first | rfl | (simp [errW_none, errW_some] <;> rfl) | (simp [*, errW_none, errW_some] <;> rfl), bb HB.out⟩
      · rw [if_neg c14] at H
        have c14b0 : decide (t889 < 0) = false := decide_eq_false c14
        clear c14
        replace H := Option.bind_eq_some_iff.mp H
        obtain ⟨t890, A200, H⟩ := H
        replace H : ((laws_toFactS.f k l1).bind fun t893 => ((laws_toCond.f k a2_0 a2_1 a2_2 l2_3).bind fun bt896 => ((laws_toRequest.f a3_0 a3_1 a3_2 a3_3 a3_4 a3_5).bind fun bt902 => ((spec_LeafHolds.f k t890 t893 bt896.1 bt896.2.1 bt896.2.2.1 bt896.2.2.2 bt902.1 bt902.2.1 bt902.2.2.1 bt902.2.2.2.1 bt902.2.2.2.2.1 bt902.2.2.2.2.2).bind fun t908 => ((laws_toIncludesS.f k l0).bind fun t909 => ((laws_toFactS.f k l1).bind fun t912 => ((laws_toCond.f k a2_0 a2_1 a2_2 l2_3).bind fun bt915 => ((laws_toRequest.f a3_0 a3_1 a3_2 a3_3 a3_4 a3_5).bind fun bt922 => ((impl_LeafHolds.f k t909 t912 bt915.1 bt915.2.1 bt915.2.2.1 bt915.2.2.2 bt922.1 bt922.2.1 bt922.2.2.1 bt922.2.2.2.1 bt922.2.2.2.2.1 bt922.2.2.2.2.2).bind fun t928 => (if (t928 != t908) = true then (none) else ((laws_toIncludesS.f k l0).bind fun t929 => ((laws_eqIncludesS.f k t909 t929).bind fun t932 => (if t932 = true then ((laws_toFactS.f k l1).bind fun t933 => ((laws_eqFactS.f k t912 t933).bind fun t936 => (if t936 = true then ((laws_toCond.f k a2_0 a2_1 a2_2 l2_3).bind fun bt937 => ((laws_eqCond.f k bt915.1 bt915.2.1 bt915.2.2.1 bt915.2.2.2 bt937.1 bt937.2.1 bt937.2.2.1 bt937.2.2.2).bind fun t943 => (if t943 = true then (some true) else (none)))) else (none)))) else (none)))))))))))))) = some r := H
        have A20 := Aside0.mk A200
        clear A200
        replace H := Option.bind_eq_some_iff.mp H
        obtain ⟨t893, A210, H⟩ := H
        replace H : ((laws_toCond.f k a2_0 a2_1 a2_2 l2_3).bind fun bt896 => ((laws_toRequest.f a3_0 a3_1 a3_2 a3_3 a3_4 a3_5).bind fun bt902 => ((spec_LeafHolds.f k t890 t893 bt896.1 bt896.2.1 bt896.2.2.1 bt896.2.2.2 bt902.1 bt902.2.1 bt902.2.2.1 bt902.2.2.2.1 bt902.2.2.2.2.1 bt902.2.2.2.2.2).bind fun t908 => ((laws_toIncludesS.f k l0).bind fun t909 => ((laws_toFactS.f k l1).bind fun t912 => ((laws_toCond.f k a2_0 a2_1 a2_2 l2_3).bind fun bt915 => ((laws_toRequest.f a3_0 a3_1 a3_2 a3_3 a3_4 a3_5).bind fun bt922 => ((impl_LeafHolds.f k t909 t912 bt915.1 bt915.2.1 bt915.2.2.1 bt915.2.2.2 bt922.1 bt922.2.1 bt922.2.2.1 bt922.2.2.2.1 bt922.2.2.2.2.1 bt922.2.2.2.2.2).bind fun t928 => (if (t928 != t908) = true then (none) else ((laws_toIncludesS.f k l0).bind fun t929 => ((laws_eqIncludesS.f k t909 t929).bind fun t932 => (if t932 = true then ((laws_toFactS.f k l1).bind fun t933 => ((laws_eqFactS.f k t912 t933).bind fun t936 => (if t936 = true then ((laws_toCond.f k a2_0 a2_1 a2_2 l2_3).bind fun bt937 => ((laws_eqCond.f k bt915.1 bt915.2.1 bt915.2.2.1 bt915.2.2.2 bt937.1 bt937.2.1 bt937.2.2.1 bt937.2.2.2).bind fun t943 => (if t943 = true then (some true) else (none)))) else (none)))) else (none))))))))))))) = some r := H
        have A21 := Aside0.mk A210
        clear A210
        replace H := Option.bind_eq_some_iff.mp H
        obtain ⟨⟨t896, t897, t898, t899⟩, A220, H⟩ := H
        replace H : ((laws_toRequest.f a3_0 a3_1 a3_2 a3_3 a3_4 a3_5).bind fun bt902 => ((spec_LeafHolds.f k t890 t893 t896 t897 t898 t899 bt902.1 bt902.2.1 bt902.2.2.1 bt902.2.2.2.1 bt902.2.2.2.2.1 bt902.2.2.2.2.2).bind fun t908 => ((laws_toIncludesS.f k l0).bind fun t909 => ((laws_toFactS.f k l1).bind fun t912 => ((laws_toCond.f k a2_0 a2_1 a2_2 l2_3).bind fun bt915 => ((laws_toRequest.f a3_0 a3_1 a3_2 a3_3 a3_4 a3_5).bind fun bt922 => ((impl_LeafHolds.f k t909 t912 bt915.1 bt915.2.1 bt915.2.2.1 bt915.2.2.2 bt922.1 bt922.2.1 bt922.2.2.1 bt922.2.2.2.1 bt922.2.2.2.2.1 bt922.2.2.2.2.2).bind fun t928 => (if (t928 != t908) = true then (none) else ((laws_toIncludesS.f k l0).bind fun t929 => ((laws_eqIncludesS.f k t909 t929).bind fun t932 => (if t932 = true then ((laws_toFactS.f k l1).bind fun t933 => ((laws_eqFactS.f k t912 t933).bind fun t936 => (if t936 = true then ((laws_toCond.f k a2_0 a2_1 a2_2 l2_3).bind fun bt937 => ((laws_eqCond.f k bt915.1 bt915.2.1 bt915.2.2.1 bt915.2.2.2 bt937.1 bt937.2.1 bt937.2.2.1 bt937.2.2.2).bind fun t943 => (if t943 = true then (some true) else (none)))) else (none)))) else (none)))))))))))) = some r := H
        have A22 := Aside0.mk A220
        clear A220
        replace H := Option.bind_eq_some_iff.mp H
        obtain ⟨⟨t902, t903, t904, t905, t906, t907⟩, A230, H⟩ := H
        replace H : ((spec_LeafHolds.f k t890 t893 t896 t897 t898 t899 t902 t903 t904 t905 t906 t907).bind fun t908 => ((laws_toIncludesS.f k l0).bind fun t909 => ((laws_toFactS.f k l1).bind fun t912 => ((laws_toCond.f k a2_0 a2_1 a2_2 l2_3).bind fun bt915 => ((laws_toRequest.f a3_0 a3_1 a3_2 a3_3 a3_4 a3_5).bind fun bt922 => ((impl_LeafHolds.f k t909 t912 bt915.1 bt915.2.1 bt915.2.2.1 bt915.2.2.2 bt922.1 bt922.2.1 bt922.2.2.1 bt922.2.2.2.1 bt922.2.2.2.2.1 bt922.2.2.2.2.2).bind fun t928 => (if (t928 != t908) = true then (none) else ((laws_toIncludesS.f k l0).bind fun t929 => ((laws_eqIncludesS.f k t909 t929).bind fun t932 => (if t932 = true then ((laws_toFactS.f k l1).bind fun t933 => ((laws_eqFactS.f k t912 t933).bind fun t936 => (if t936 = true then ((laws_toCond.f k a2_0 a2_1 a2_2 l2_3).bind fun bt937 => ((laws_eqCond.f k bt915.1 bt915.2.1 bt915.2.2.1 bt915.2.2.2 bt937.1 bt937.2.1 bt937.2.2.1 bt937.2.2.2).bind fun t943 => (if t943 = true then (some true) else (none)))) else (none)))) else (none))))))))))) = some r := H
        have A23 := Aside0.mk A230
        clear A230
        replace H := Option.bind_eq_some_iff.mp H
        obtain ⟨t908, A240, H⟩ := H
        replace H : ((laws_toIncludesS.f k l0).bind fun t909 => ((laws_toFactS.f k l1).bind fun t912 => ((laws_toCond.f k a2_0 a2_1 a2_2 l2_3).bind fun bt915 => ((laws_toRequest.f a3_0 a3_1 a3_2 a3_3 a3_4 a3_5).bind fun bt922 => ((impl_LeafHolds.f k t909 t912 bt915.1 bt915.2.1 bt915.2.2.1 bt915.2.2.2 bt922.1 bt922.2.1 bt922.2.2.1 bt922.2.2.2.1 bt922.2.2.2.2.1 bt922.2.2.2.2.2).bind fun t928 => (if (t928 != t908) = true then (none) else ((laws_toIncludesS.f k l0).bind fun t929 => ((laws_eqIncludesS.f k t909 t929).bind fun t932 => (if t932 = true then ((laws_toFactS.f k l1).bind fun t933 => ((laws_eqFactS.f k t912 t933).bind fun t936 => (if t936 = true then ((laws_toCond.f k a2_0 a2_1 a2_2 l2_3).bind fun bt937 => ((laws_eqCond.f k bt915.1 bt915.2.1 bt915.2.2.1 bt915.2.2.2 bt937.1 bt937.2.1 bt937.2.2.1 bt937.2.2.2).bind fun t943 => (if t943 = true then (some true) else (none)))) else (none)))) else (none)))))))))) = some r := H
        have A24 := Aside0.mk A240
        clear A240
        replace H := Option.bind_eq_some_iff.mp H
        obtain ⟨t909, A250, H⟩ := H
        replace H : ((laws_toFactS.f k l1).bind fun t912 => ((laws_toCond.f k a2_0 a2_1 a2_2 l2_3).bind fun bt915 => ((laws_toRequest.f a3_0 a3_1 a3_2 a3_3 a3_4 a3_5).bind fun bt922 => ((impl_LeafHolds.f k t909 t912 bt915.1 bt915.2.1 bt915.2.2.1 bt915.2.2.2 bt922.1 bt922.2.1 bt922.2.2.1 bt922.2.2.2.1 bt922.2.2.2.2.1 bt922.2.2.2.2.2).bind fun t928 => (if (t928 != t908) = true then (none) else ((laws_toIncludesS.f k l0).bind fun t929 => ((laws_eqIncludesS.f k t909 t929).bind fun t932 => (if t932 = true then ((laws_toFactS.f k l1).bind fun t933 => ((laws_eqFactS.f k t912 t933).bind fun t936 => (if t936 = true then ((laws_toCond.f k a2_0 a2_1 a2_2 l2_3).bind fun bt937 => ((laws_eqCond.f k bt915.1 bt915.2.1 bt915.2.2.1 bt915.2.2.2 bt937.1 bt937.2.1 bt937.2.2.1 bt937.2.2.2).bind fun t943 => (if t943 = true then (some true) else (none)))) else (none)))) else (none))))))))) = some r := H
        have A25 := Aside0.mk A250
        clear A250
        replace H := Option.bind_eq_some_iff.mp H
        obtain ⟨t912, A260, H⟩ := H
        replace H : ((laws_toCond.f k a2_0 a2_1 a2_2 l2_3).bind fun bt915 => ((laws_toRequest.f a3_0 a3_1 a3_2 a3_3 a3_4 a3_5).bind fun bt922 => ((impl_LeafHolds.f k t909 t912 bt915.1 bt915.2.1 bt915.2.2.1 bt915.2.2.2 bt922.1 bt922.2.1 bt922.2.2.1 bt922.2.2.2.1 bt922.2.2.2.2.1 bt922.2.2.2.2.2).bind fun t928 => (if (t928 != t908) = true then (none) else ((laws_toIncludesS.f k l0).bind fun t929 => ((laws_eqIncludesS.f k t909 t929).bind fun t932 => (if t932 = true then ((laws_toFactS.f k l1).bind fun t933 => ((laws_eqFactS.f k t912 t933).bind fun t936 => (if t936 = true then ((laws_toCond.f k a2_0 a2_1 a2_2 l2_3).bind fun bt937 => ((laws_eqCond.f k bt915.1 bt915.2.1 bt915.2.2.1 bt915.2.2.2 bt937.1 bt937.2.1 bt937.2.2.1 bt937.2.2.2).bind fun t943 => (if t943 = true then (some true) else (none)))) else (none)))) else (none)))))))) = some r := H
        have A26 := Aside0.mk A260
        clear A260
        replace H := Option.bind_eq_some_iff.mp H
        obtain ⟨⟨t915, t916, t917, t918⟩, A270, H⟩ := H
        replace H : ((laws_toRequest.f a3_0 a3_1 a3_2 a3_3 a3_4 a3_5).bind fun bt922 => ((impl_LeafHolds.f k t909 t912 t915 t916 t917 t918 bt922.1 bt922.2.1 bt922.2.2.1 bt922.2.2.2.1 bt922.2.2.2.2.1 bt922.2.2.2.2.2).bind fun t928 => (if (t928 != t908) = true then (none) else ((laws_toIncludesS.f k l0).bind fun t929 => ((laws_eqIncludesS.f k t909 t929).bind fun t932 => (if t932 = true then ((laws_toFactS.f k l1).bind fun t933 => ((laws_eqFactS.f k t912 t933).bind fun t936 => (if t936 = true then ((laws_toCond.f k a2_0 a2_1 a2_2 l2_3).bind fun bt937 => ((laws_eqCond.f k t915 t916 t917 t918 bt937.1 bt937.2.1 bt937.2.2.1 bt937.2.2.2).bind fun t943 => (if t943 = true then (some true) else (none)))) else (none)))) else (none))))))) = some r := H
        have A27 := Aside0.mk A270
        clear A270
        replace H := Option.bind_eq_some_iff.mp H
        obtain ⟨⟨t922, t923, t924, t925, t926, t927⟩, A280, H⟩ := H
        replace H : ((impl_LeafHolds.f k t909 t912 t915 t916 t917 t918 t922 t923 t924 t925 t926 t927).bind fun t928 => (if (t928 != t908) = true then (none) else ((laws_toIncludesS.f k l0).bind fun t929 => ((laws_eqIncludesS.f k t909 t929).bind fun t932 => (if t932 = true then ((laws_toFactS.f k l1).bind fun t933 => ((laws_eqFactS.f k t912 t933).bind fun t936 => (if t936 = true then ((laws_toCond.f k a2_0 a2_1 a2_2 l2_3).bind fun bt937 => ((laws_eqCond.f k t915 t916 t917 t918 bt937.1 bt937.2.1 bt937.2.2.1 bt937.2.2.2).bind fun t943 => (if t943 = true then (some true) else (none)))) else (none)))) else (none)))))) = some r := H
        have A28 := Aside0.mk A280
        clear A280
        replace H := Option.bind_eq_some_iff.mp H
        obtain ⟨t928, A290, H⟩ := H
        replace H : (if (t928 != t908) = true then (none) else ((laws_toIncludesS.f k l0).bind fun t929 => ((laws_eqIncludesS.f k t909 t929).bind fun t932 => (if t932 = true then ((laws_toFactS.f k l1).bind fun t933 => ((laws_eqFactS.f k t912 t933).bind fun t936 => (if t936 = true then ((laws_toCond.f k a2_0 a2_1 a2_2 l2_3).bind fun bt937 => ((laws_eqCond.f k t915 t916 t917 t918 bt937.1 bt937.2.1 bt937.2.2.1 bt937.2.2.2).bind fun t943 => (if t943 = true then (some true) else (none)))) else (none)))) else (none))))) = some r := H
        have A29 := Aside0.mk A290
        clear A290
        by_cases c30 : (t928 != t908) = true
        · rw [if_pos c30] at H
          exact absurd H (by simp)
        · rw [if_neg c30] at H
          have c30b0 : (t928 != t908) = false := by simpa using c30
          (try (have c30b1 : decide (t928 = t908) = true := by simpa using c30))
          (try (have c30b2 : (t928 == t908) = true := by simpa using c30))
          clear c30
          replace H := Option.bind_eq_some_iff.mp H
          obtain ⟨t929, A310, H⟩ := H
          replace H : ((laws_eqIncludesS.f k t909 t929).bind fun t932 => (if t932 = true then ((laws_toFactS.f k l1).bind fun t933 => ((laws_eqFactS.f k t912 t933).bind fun t936 => (if t936 = true then ((laws_toCond.f k a2_0 a2_1 a2_2 l2_3).bind fun bt937 => ((laws_eqCond.f k t915 t916 t917 t918 bt937.1 bt937.2.1 bt937.2.2.1 bt937.2.2.2).bind fun t943 => (if t943 = true then (some true) else (none)))) else (none)))) else (none))) = some r := H
          have A31 := Aside0.mk A310
          clear A310
          replace H := Option.bind_eq_some_iff.mp H
          obtain ⟨t932, A320, H⟩ := H
          replace H : (if t932 = true then ((laws_toFactS.f k l1).bind fun t933 => ((laws_eqFactS.f k t912 t933).bind fun t936 => (if t936 = true then ((laws_toCond.f k a2_0 a2_1 a2_2 l2_3).bind fun bt937 => ((laws_eqCond.f k t915 t916 t917 t918 bt937.1 bt937.2.1 bt937.2.2.1 bt937.2.2.2).bind fun t943 => (if t943 = true then (some true) else (none)))) else (none)))) else (none)) = some r := H
          have A32 := Aside0.mk A320
          clear A320
          by_cases c33 : t932 = true
          · subst c33
            have H1 : ((laws_toFactS.f k l1).bind fun t933 => ((laws_eqFactS.f k t912 t933).bind fun t936 => (if t936 = true then ((laws_toCond.f k a2_0 a2_1 a2_2 l2_3).bind fun bt937 => ((laws_eqCond.f k t915 t916 t917 t918 bt937.1 bt937.2.1 bt937.2.2.1 bt937.2.2.2).bind fun t943 => (if t943 = true then (some true) else (none)))) else (none)))) = some r := by rw [if_pos rfl] at H; exact H
            clear H
            have H := H1
            clear H1
            replace H := Option.bind_eq_some_iff.mp H
            obtain ⟨t933, A340, H⟩ := H
            replace H : ((laws_eqFactS.f k t912 t933).bind fun t936 => (if t936 = true then ((laws_toCond.f k a2_0 a2_1 a2_2 l2_3).bind fun bt937 => ((laws_eqCond.f k t915 t916 t917 t918 bt937.1 bt937.2.1 bt937.2.2.1 bt937.2.2.2).bind fun t943 => (if t943 = true then (some true) else (none)))) else (none))) = some r := H
            have A34 := Aside0.mk A340
            clear A340
            replace H := Option.bind_eq_some_iff.mp H
            obtain ⟨t936, A350, H⟩ := H
            replace H : (if t936 = true then ((laws_toCond.f k a2_0 a2_1 a2_2 l2_3).bind fun bt937 => ((laws_eqCond.f k t915 t916 t917 t918 bt937.1 bt937.2.1 bt937.2.2.1 bt937.2.2.2).bind fun t943 => (if t943 = true then (some true) else (none)))) else (none)) = some r := H
            have A35 := Aside0.mk A350
            clear A350
            by_cases c36 : t936 = true
            · subst c36
              have H1 : ((laws_toCond.f k a2_0 a2_1 a2_2 l2_3).bind fun bt937 => ((laws_eqCond.f k t915 t916 t917 t918 bt937.1 bt937.2.1 bt937.2.2.1 bt937.2.2.2).bind fun t943 => (if t943 = true then (some true) else (none)))) = some r := by rw [if_pos rfl] at H; exact H
              clear H
              have H := H1
              clear H1
              replace H := Option.bind_eq_some_iff.mp H
              obtain ⟨⟨t937, t938, t939, t940⟩, A370, H⟩ := H
              replace H : ((laws_eqCond.f k t915 t916 t917 t918 t937 t938 t939 t940).bind fun t943 => (if t943 = true then (some true) else (none))) = some r := H
              have A37 := Aside0.mk A370
              clear A370
              replace H := Option.bind_eq_some_iff.mp H
              obtain ⟨t943, A380, H⟩ := H
              replace H : (if t943 = true then (some true) else (none)) = some r := H
              have A38 := Aside0.mk A380
              clear A380
              by_cases c39 : t943 = true
              · subst c39
                have H1 : (some true) = some r := by rw [if_pos rfl] at H; exact H
                clear H
                have H := H1
                clear H1
                obtain rfl := Option.some.inj H
                go_enter Try.func10, Try.ntmps10
                try go_wp2_with (first | ((with_reducible refine gate_dst (N := 6) rfl ?_); refine box_event ?hg (N := 6) ?hd (cs := #[.int .i64 a2_0, .int .i64 a2_1, .int .i64 a2_2, .slice A2_3 l2_3.length c2_3]) (t := 100) ?hr ?_; (case hd => rfl); (case hg => rfl); (case hr => first | (go_simp; done) | (go_simp; rfl)); intro gb885 hg w40 hbox hb; have n0_ := Aside0.mk (below_step (bb HB.out) hb); have n1_ := Aside0.mk (hbox); have n2_ := Aside0.mk ((by rw [hg]; exact (below_size (bb HB.out)) : w.heap.size ≤ gb885)); have n3_ := Aside0.mk ((by rw [hg]; exact (below_size (bb HB.out)) : w.heap.size ≤ gb885)); clear HB; have HB := n0_; have BK885 := n1_; have GW885 := n2_; have GE885 := n3_; clear n0_ n1_ n2_ n3_; clear hb hbox hg) | ((with_reducible refine gate_dst (N := 7) rfl ?_); refine box_event ?hg (N := 7) ?hd (cs := #[.int .i64 a3_0, .int .i64 a3_1, .int .i64 a3_2, .int .i64 a3_3, .int .i64 a3_4, .int .i64 a3_5]) (t := 102) ?hr ?_; (case hd => rfl); (case hg => rfl); (case hr => first | (go_simp; done) | (go_simp; rfl)); intro gb886 hg w41 hbox hb; have n0_ := Aside0.mk (blk_below (rb BK885.out) hb); have n1_ := Aside0.mk (below_step (bb HB.out) hb); have n2_ := Aside0.mk (hbox); have n3_ := Aside0.mk ((by rw [hg]; exact (below_size (bb HB.out)) : w.heap.size ≤ gb886)); have n4_ := Aside0.mk ((by rw [hg]; exact (below_size (bb HB.out)) : w.heap.size ≤ gb886)); have n5_ := Aside0.mk ((by rw [hg]; exact Nat.ne_of_lt (blk_lt (g := gb885) (o := .cells #[.int .i64 a2_0, .int .i64 a2_1, .int .i64 a2_2, .slice A2_3 l2_3.length c2_3] 100 (0, 0)) (rb BK885.out)) : gb885 ≠ gb886)); have n6_ := Aside0.mk ((by rw [hg]; exact Nat.ne_of_gt (blk_lt (g := gb885) (o := .cells #[.int .i64 a2_0, .int .i64 a2_1, .int .i64 a2_2, .slice A2_3 l2_3.length c2_3] 100 (0, 0)) (rb BK885.out)) : gb886 ≠ gb885)); clear BK885; clear HB; have BK885 := n0_; have HB := n1_; have BK886 := n2_; have GW886 := n3_; have GE886 := n4_; have NB885_886 := n5_; have NB886_885 := n6_; clear n0_ n1_ n2_ n3_ n4_ n5_ n6_; clear hb hbox hg) | ((with_reducible refine gate_callee (f := 46) rfl ?_); refine gm (some 17) Try.func46 #[.slice A0 l0.length c0, .int .i64 1048576] ?_; (with_reducible refine (laws_szIncludesS.calls _ _ l0 1048576 t887 _ ?side1 ?side2 A5.out).mono ?_); (case side1 => repeat (first | exact (Kd.C_below HR0.out HB.out) | (with_reducible refine Kd.C_alloc ?_ _) | (with_reducible refine Kd.C_drewN ?_ _) | (with_reducible refine Kd.C_drew ?_))); (case side2 => exact HC0.out); rintro e w' ⟨rfl, ⟨nd, rfl⟩⟩; refine ⟨_, rfl, ?_⟩; (try (rw [drewN_self w41]; generalize hq_ : World.drewN w41 _ = w41; have n0_ := Aside0.mk (blk_at hq_ BK885.out); have n1_ := Aside0.mk (blk_at hq_ BK886.out); have n2_ := Aside0.mk (below_at hq_ HB.out); clear hq_ BK885 BK886 HB; have BK885 := n0_; have BK886 := n1_; have HB := n2_; clear n0_ n1_ n2_))) | ((with_reducible refine gate_callee (f := 65) rfl ?_); refine gm (some 22) Try.func65 #[.slice A1 l1.length c1, .int .i64 t887] ?_; (with_reducible refine (laws_szFactS.calls _ _ l1 t887 t888 _ ?side1 ?side2 A9.out).mono ?_); (case side1 => repeat (first | exact (Kd.C_below HR1.out HB.out) | (with_reducible refine Kd.C_alloc ?_ _) | (with_reducible refine Kd.C_drewN ?_ _) | (with_reducible refine Kd.C_drew ?_))); (case side2 => exact HC1.out); rintro e w' ⟨rfl, ⟨nd, rfl⟩⟩; refine ⟨_, rfl, ?_⟩; (try (rw [drewN_self w41]; generalize hq_ : World.drewN w41 _ = w41; have n0_ := Aside0.mk (blk_at hq_ BK885.out); have n1_ := Aside0.mk (blk_at hq_ BK886.out); have n2_ := Aside0.mk (below_at hq_ HB.out); clear hq_ BK885 BK886 HB; have BK885 := n0_; have BK886 := n1_; have HB := n2_; clear n0_ n1_ n2_)); have hnb42 := NB885_886.out; have hnc42 := NB886_885.out; have hcz43_0 := cz BK885.out 0 (.int .i64 a2_0); have hcz43_1 := cz BK885.out 1 (.int .i64 a2_1); have hcz43_2 := cz BK885.out 2 (.int .i64 a2_2); have hcz43_3 := cz BK885.out 3 (.slice A2_3 l2_3.length c2_3); have hfz43_0 := blk_frozen BK885.out 0; have hfz43_1 := blk_frozen BK885.out 1; have hfz43_2 := blk_frozen BK885.out 2; have hfz43_3 := blk_frozen BK885.out 3) | ((with_reducible refine gate_callee (f := 66) rfl ?_); refine gm (some 27) Try.func66 #[.agg #[.int .i64 a2_0, .int .i64 a2_1, .int .i64 a2_2, .slice A2_3 l2_3.length c2_3], .int .i64 t888] ?_; (with_reducible refine (laws_szCond.calls k a2_0 a2_1 a2_2 _ _ l2_3 t888 t889 _ ?side1 ?side2 A13.out).mono ?_); (case side1 => repeat (first | exact (Kd.C_below HR2_3.out HB.out) | (with_reducible refine Kd.C_alloc ?_ _) | (with_reducible refine Kd.C_drewN ?_ _) | (with_reducible refine Kd.C_drew ?_))); (case side2 => exact HC2_3.out); rintro e w44 ⟨rfl, hb⟩; refine ⟨_, rfl, ?_⟩; have n0_ := Aside0.mk (blk_below (rb BK885.out) hb); have n1_ := Aside0.mk (blk_below (rb BK886.out) hb); have n2_ := Aside0.mk (below_step (bb HB.out) hb); clear BK885; clear BK886; clear HB; have BK885 := n0_; have BK886 := n1_; have HB := n2_; clear n0_ n1_ n2_; (try clear hb); (try clear hb2); (try clear hk); (try clear hi)))
                have n0_ := Aside0.mk (blk_drew BK885.out)
                have n1_ := Aside0.mk (blk_drew BK886.out)
                have n2_ := Aside0.mk (below_drew1 HB.out)
                clear BK885
                clear BK886
                clear HB
                have BK885 := n0_
                have BK886 := n1_
                have HB := n2_
                clear n0_ n1_ n2_
                refine start_ (n := 10) (S := fun w' => w'.cell? ⟨gb885, 0, none⟩ = some (.int .i64 a2_0) ∧ w'.cell? ⟨gb885, 1, none⟩ = some (.int .i64 a2_1) ∧ w'.cell? ⟨gb885, 2, none⟩ = some (.int .i64 a2_2) ∧ w'.cell? ⟨gb885, 3, none⟩ = some (.slice A2_3 l2_3.length c2_3) ∧ w'.cell? ⟨gb886, 0, none⟩ = some (.int .i64 a3_0) ∧ w'.cell? ⟨gb886, 1, none⟩ = some (.int .i64 a3_1) ∧ w'.cell? ⟨gb886, 2, none⟩ = some (.int .i64 a3_2) ∧ w'.cell? ⟨gb886, 3, none⟩ = some (.int .i64 a3_3) ∧ w'.cell? ⟨gb886, 4, none⟩ = some (.int .i64 a3_4) ∧ w'.cell? ⟨gb886, 5, none⟩ = some (.int .i64 a3_5)) (ds := []) #[false, false, false, false, false, false, false, false, false, false] (by kernel_rfl) rfl rfl ⟨(blk_cell BK885.out 0).trans rfl, (blk_cell BK885.out 1).trans rfl, (blk_cell BK885.out 2).trans rfl, (blk_cell BK885.out 3).trans rfl, (blk_cell BK886.out 0).trans rfl, (blk_cell BK886.out 1).trans rfl, (blk_cell BK886.out 2).trans rfl, (blk_cell BK886.out 3).trans rfl, (blk_cell BK886.out 4).trans rfl, (blk_cell BK886.out 5).trans rfl⟩ (fun hHeld => ?_); refine with_tabW laws_FnExactLeafHolds.tab11 laws_FnExactLeafHolds.bits11 (fun HT_ HW_ => ?_)
                generalize w44.drew = w45 at BK885 BK886 HB hHeld ⊢
                refine pure_ (i := 0) (N := some 30) (v := ?_) (a' := ?_) #[true, false, false, false, false, false, false, false, false, false] rfl rfl (any_of HT_.out (by kernel_rfl)) (fun _ _ _ h => h) (Or.inl ⟨by rfl, ?_⟩) ?_ ?_
                rotate_left
                · intro w'
                  go_simp
                  with_reducible rfl
                rotate_left
                · simp only [Act.put, List.setIfInBounds_toArray, List.set_cons_zero, List.set_cons_succ, i64_w, i32_w]
                  rfl
                refine pure_ (i := 2) (N := some 32) (v := ?_) (a' := ?_) #[true, false, true, false, false, false, false, false, false, false] rfl rfl (any_of HT_.out (by kernel_rfl)) (fun _ _ _ h => h) (Or.inl ⟨by rfl, ?_⟩) ?_ ?_
                rotate_left
                · intro w'
                  go_simp
                  with_reducible rfl
                rotate_left
                · simp only [Act.put, List.setIfInBounds_toArray, List.set_cons_zero, List.set_cons_succ, i64_w, i32_w]
                  rfl
                refine take_ (i := 4) (N := some 34) (v := ?_) (a' := ?_) #[true, false, true, false, true, false, false, false, false, false] rfl rfl (take_ofW HT_.out HW_.out (by kernel_rfl)) (fun _ _ _ h => h) (Or.inl ⟨by rfl, ?_⟩) hHeld ?_ ?_
                rotate_left
                · rintro w' ⟨s0, s1, s2, s3, s4, s5, s6, s7, s8, s9⟩
                  go_simp
                  with_reducible rfl
                rotate_left
                · simp only [Act.put, List.setIfInBounds_toArray, List.set_cons_zero, List.set_cons_succ, i64_w, i32_w]
                  rfl
                refine take_ (i := 6) (N := some 36) (v := ?_) (a' := ?_) #[true, false, true, false, true, false, true, false, false, false] rfl rfl (take_ofW HT_.out HW_.out (by kernel_rfl)) (fun _ _ _ h => h) (Or.inl ⟨by rfl, ?_⟩) hHeld ?_ ?_
                rotate_left
                · rintro w' ⟨s0, s1, s2, s3, s4, s5, s6, s7, s8, s9⟩
                  go_simp
                  with_reducible rfl
                rotate_left
                · simp only [Act.put, List.setIfInBounds_toArray, List.set_cons_zero, List.set_cons_succ, i64_w, i32_w]
                  rfl
                refine one_ (i := 1) (N := some 31) #[true, true, true, false, true, false, true, false, false, false] rfl rfl (one_of HT_.out (by kernel_rfl)) (by decide) (fun K hK => ?_)
                refine goes_ Try.func50 (by kernel_rfl) rfl #[.slice A0 l0.length c0] (by rfl) rfl rfl (by (try simp only [List.map_toArray, List.map_cons, List.map_nil]); first | done | rfl | (simp only [List.length_drop, List.length_take]; rfl)) ?_
                with_reducible refine (laws_toIncludesS.calls k _ _ l0 t890 _ ?side1 ?side2 A20.out).mono ?_
                (case side1 => repeat (first | exact (Kd.C_below HR0.out HB.out) | (with_reducible refine Kd.C_alloc ?_ _) | (with_reducible refine Kd.C_drewN ?_ _) | (with_reducible refine Kd.C_drew ?_)))
                (case side2 => exact HC0.out)
                rintro e w46 ⟨v891, rfl, ho0, hb⟩
                refine ⟨_, rfl, ?_⟩
                have n0_ := Aside0.mk (Kd.R_lower ho0 (below_size (bb HB.out)))
                have n1_ := Aside0.mk (blk_below (rb BK885.out) hb)
                have n2_ := Aside0.mk (blk_below (rb BK886.out) hb)
                have n3_ := Aside0.mk (below_step (bb HB.out) hb)
                clear BK885
                clear BK886
                clear HB
                have HO892 := n0_
                have BK885 := n1_
                have BK886 := n2_
                have HB := n3_
                clear n0_ n1_ n2_ n3_
                (try clear hb)
                (try clear hb2)
                (try clear hk)
                (try clear hi)
                (try clear ho0)
                refine hK.out _ _ ⟨(blk_cell BK885.out 0).trans rfl, (blk_cell BK885.out 1).trans rfl, (blk_cell BK885.out 2).trans rfl, (blk_cell BK885.out 3).trans rfl, (blk_cell BK886.out 0).trans rfl, (blk_cell BK886.out 1).trans rfl, (blk_cell BK886.out 2).trans rfl, (blk_cell BK886.out 3).trans rfl, (blk_cell BK886.out 4).trans rfl, (blk_cell BK886.out 5).trans rfl⟩ (fun hHeld => ?_)
                clear hK K
                refine norm_ (a' := ?_) ?_ ?_
                rotate_left
                · show Act.put _ (some 31) _ = _
                  simp only [Act.put, List.setIfInBounds_toArray, List.set_cons_zero, List.set_cons_succ, i64_w, i32_w]
                  rfl
                refine one_ (i := 3) (N := some 33) #[true, true, true, true, true, false, true, false, false, false] rfl rfl (one_of HT_.out (by kernel_rfl)) (by decide) (fun K hK => ?_)
                refine goes_ Try.func68 (by kernel_rfl) rfl #[.slice A1 l1.length c1] (by rfl) rfl rfl (by (try simp only [List.map_toArray, List.map_cons, List.map_nil]); first | done | rfl | (simp only [List.length_drop, List.length_take]; rfl)) ?_
                with_reducible refine (laws_toFactS.calls k _ _ l1 t893 _ ?side1 ?side2 A21.out).mono ?_
                (case side1 => repeat (first | exact (Kd.C_below HR1.out HB.out) | (with_reducible refine Kd.C_alloc ?_ _) | (with_reducible refine Kd.C_drewN ?_ _) | (with_reducible refine Kd.C_drew ?_)))
                (case side2 => exact HC1.out)
                rintro e w47 ⟨v894, rfl, ho0, hb⟩
                refine ⟨_, rfl, ?_⟩
                have n0_ := Aside0.mk (Kd.R_below (rr HO892.out) hb)
                have n1_ := Aside0.mk (Kd.R_lower ho0 (below_size (bb HB.out)))
                have n2_ := Aside0.mk (blk_below (rb BK885.out) hb)
                have n3_ := Aside0.mk (blk_below (rb BK886.out) hb)
                have n4_ := Aside0.mk (below_step (bb HB.out) hb)
                clear HO892
                clear BK885
                clear BK886
                clear HB
                have HO892 := n0_
                have HO895 := n1_
                have BK885 := n2_
                have BK886 := n3_
                have HB := n4_
                clear n0_ n1_ n2_ n3_ n4_
                (try clear hb)
                (try clear hb2)
                (try clear hk)
                (try clear hi)
                (try clear ho0)
                refine hK.out _ _ ⟨(blk_cell BK885.out 0).trans rfl, (blk_cell BK885.out 1).trans rfl, (blk_cell BK885.out 2).trans rfl, (blk_cell BK885.out 3).trans rfl, (blk_cell BK886.out 0).trans rfl, (blk_cell BK886.out 1).trans rfl, (blk_cell BK886.out 2).trans rfl, (blk_cell BK886.out 3).trans rfl, (blk_cell BK886.out 4).trans rfl, (blk_cell BK886.out 5).trans rfl⟩ (fun hHeld => ?_)
                clear hK K
                refine norm_ (a' := ?_) ?_ ?_
                rotate_left
                · show Act.put _ (some 33) _ = _
                  simp only [Act.put, List.setIfInBounds_toArray, List.set_cons_zero, List.set_cons_succ, i64_w, i32_w]
                  rfl
                refine one_ (i := 5) (N := some 35) #[true, true, true, true, true, true, true, false, false, false] rfl rfl (one_of HT_.out (by kernel_rfl)) (by decide) (fun K hK => ?_)
                refine goes_ Try.func69 (by kernel_rfl) rfl #[.agg #[.int .i64 a2_0, .int .i64 a2_1, .int .i64 a2_2, .slice A2_3 l2_3.length c2_3]] (by rfl) rfl rfl (by (try simp only [List.map_toArray, List.map_cons, List.map_nil]); first | done | rfl | (simp only [List.length_drop, List.length_take]; rfl)) ?_
                with_reducible refine (laws_toCond.calls k a2_0 a2_1 a2_2 _ _ l2_3 t896 t897 t898 t899 _ ?side1 ?side2 A22.out).mono ?_
                (case side1 => repeat (first | exact (Kd.C_below HR2_3.out HB.out) | (with_reducible refine Kd.C_alloc ?_ _) | (with_reducible refine Kd.C_drewN ?_ _) | (with_reducible refine Kd.C_drew ?_)))
                (case side2 => exact HC2_3.out)
                rintro e w48 ⟨v900, rfl, ho0, hb⟩
                refine ⟨_, rfl, ?_⟩
                have n0_ := Aside0.mk (Kd.R_below (rr HO892.out) hb)
                have n1_ := Aside0.mk (Kd.R_below (rr HO895.out) hb)
                have n2_ := Aside0.mk (Kd.R_lower ho0 (below_size (bb HB.out)))
                have n3_ := Aside0.mk (blk_below (rb BK885.out) hb)
                have n4_ := Aside0.mk (blk_below (rb BK886.out) hb)
                have n5_ := Aside0.mk (below_step (bb HB.out) hb)
                clear HO892
                clear HO895
                clear BK885
                clear BK886
                clear HB
                have HO892 := n0_
                have HO895 := n1_
                have HO901 := n2_
                have BK885 := n3_
                have BK886 := n4_
                have HB := n5_
                clear n0_ n1_ n2_ n3_ n4_ n5_
                (try clear hb)
                (try clear hb2)
                (try clear hk)
                (try clear hi)
                (try clear ho0)
                refine hK.out _ _ ⟨(blk_cell BK885.out 0).trans rfl, (blk_cell BK885.out 1).trans rfl, (blk_cell BK885.out 2).trans rfl, (blk_cell BK885.out 3).trans rfl, (blk_cell BK886.out 0).trans rfl, (blk_cell BK886.out 1).trans rfl, (blk_cell BK886.out 2).trans rfl, (blk_cell BK886.out 3).trans rfl, (blk_cell BK886.out 4).trans rfl, (blk_cell BK886.out 5).trans rfl⟩ (fun hHeld => ?_)
                clear hK K
                refine norm_ (a' := ?_) ?_ ?_
                rotate_left
                · show Act.put _ (some 35) _ = _
                  simp only [Act.put, List.setIfInBounds_toArray, List.set_cons_zero, List.set_cons_succ, i64_w, i32_w]
                  rfl
                refine one_ (i := 7) (N := some 37) #[true, true, true, true, true, true, true, true, false, false] rfl rfl (one_of HT_.out (by kernel_rfl)) (by decide) (fun K hK => ?_)
                refine goes_ Try.func70 (by kernel_rfl) rfl #[.agg #[.int .i64 a3_0, .int .i64 a3_1, .int .i64 a3_2, .int .i64 a3_3, .int .i64 a3_4, .int .i64 a3_5]] (by rfl) rfl rfl (by (try simp only [List.map_toArray, List.map_cons, List.map_nil]); first | done | rfl | (simp only [List.length_drop, List.length_take]; rfl)) ?_
                with_reducible refine (laws_toRequest.calls a3_0 a3_1 a3_2 a3_3 a3_4 a3_5 t902 t903 t904 t905 t906 t907 _ A23.out).mono ?_
                rintro e w49 ⟨rfl, hb⟩
                refine ⟨_, rfl, ?_⟩
                have n0_ := Aside0.mk (Kd.R_below (rr HO892.out) hb)
                have n1_ := Aside0.mk (Kd.R_below (rr HO895.out) hb)
                have n2_ := Aside0.mk (Kd.R_below (rr HO901.out) hb)
                have n3_ := Aside0.mk (blk_below (rb BK885.out) hb)
                have n4_ := Aside0.mk (blk_below (rb BK886.out) hb)
                have n5_ := Aside0.mk (below_step (bb HB.out) hb)
                clear HO892
                clear HO895
                clear HO901
                clear BK885
                clear BK886
                clear HB
                have HO892 := n0_
                have HO895 := n1_
                have HO901 := n2_
                have BK885 := n3_
                have BK886 := n4_
                have HB := n5_
                clear n0_ n1_ n2_ n3_ n4_ n5_
                (try clear hb)
                (try clear hb2)
                (try clear hk)
                (try clear hi)
                obtain ⟨Ao50, co50, eo50⟩ := Kd.R_slice HO892.out
                (first | subst eo50 | (injection eo50 with f1_ f2_ f3_; have f4_ := f1_.symm; have f5_ := f3_.symm; clear f1_ f2_ f3_; subst f4_; subst f5_))
                obtain ⟨Ao51, co51, eo51⟩ := Kd.R_slice HO895.out
                (first | subst eo51 | (injection eo51 with f1_ f2_ f3_; have f4_ := f1_.symm; have f5_ := f3_.symm; clear f1_ f2_ f3_; subst f4_; subst f5_))
                obtain ⟨Ao52, co52, eo52⟩ := Kd.R_slice HO901.out
                (first | subst eo52 | (injection eo52 with f1_ f2_ f3_; have f4_ := f1_.symm; have f5_ := f3_.symm; clear f1_ f2_ f3_; subst f4_; subst f5_))
                refine hK.out _ _ ⟨(blk_cell BK885.out 0).trans rfl, (blk_cell BK885.out 1).trans rfl, (blk_cell BK885.out 2).trans rfl, (blk_cell BK885.out 3).trans rfl, (blk_cell BK886.out 0).trans rfl, (blk_cell BK886.out 1).trans rfl, (blk_cell BK886.out 2).trans rfl, (blk_cell BK886.out 3).trans rfl, (blk_cell BK886.out 4).trans rfl, (blk_cell BK886.out 5).trans rfl⟩ (fun hHeld => ?_)
                clear hK K
                refine norm_ (a' := ?_) ?_ ?_
                rotate_left
                · show Act.put _ (some 37) _ = _
                  simp only [Act.put, List.setIfInBounds_toArray, List.set_cons_zero, List.set_cons_succ, i64_w, i32_w]
                  rfl
                refine one_ (i := 8) (N := some 38) #[true, true, true, true, true, true, true, true, true, false] rfl rfl (one_of HT_.out (by kernel_rfl)) (by decide) (fun K hK => ?_)
                refine goes_ Try.func67 (by kernel_rfl) rfl #[.slice Ao50 t890.length co50, .slice Ao51 t893.length co51, .agg #[.int .i64 t896, .int .i64 t897, .int .i64 t898, .slice Ao52 t899.length co52], .agg #[.int .i64 t902, .int .i64 t903, .int .i64 t904, .int .i64 t905, .int .i64 t906, .int .i64 t907]] (by rfl) rfl rfl (by (try simp only [List.map_toArray, List.map_cons, List.map_nil]); first | done | rfl | (simp only [List.length_drop, List.length_take]; rfl)) ?_
                with_reducible refine (spec_LeafHolds.calls k _ _ t890 _ _ t893 t896 t897 t898 _ _ t899 t902 t903 t904 t905 t906 t907 t908 _ ?side1 ?side2 ?side3 ?side4 ?side5 ?side6 A24.out).mono ?_
                (case side1 => repeat (first | exact (Kd.R_reads' HO892.out).2.2 | (with_reducible refine Kd.C_alloc ?_ _) | (with_reducible refine Kd.C_drewN ?_ _) | (with_reducible refine Kd.C_drew ?_)))
                (case side2 => exact (Kd.R_reads' HO892.out).2.1)
                (case side3 => repeat (first | exact (Kd.R_reads' HO895.out).2.2 | (with_reducible refine Kd.C_alloc ?_ _) | (with_reducible refine Kd.C_drewN ?_ _) | (with_reducible refine Kd.C_drew ?_)))
                (case side4 => exact (Kd.R_reads' HO895.out).2.1)
                (case side5 => repeat (first | exact (Kd.R_reads' HO901.out).2.2 | (with_reducible refine Kd.C_alloc ?_ _) | (with_reducible refine Kd.C_drewN ?_ _) | (with_reducible refine Kd.C_drew ?_)))
                (case side6 => exact (Kd.R_reads' HO901.out).2.1)
                rintro e w53 ⟨rfl, hb⟩
                refine ⟨_, rfl, ?_⟩
                have n0_ := Aside0.mk (Kd.R_below (rr HO892.out) hb)
                have n1_ := Aside0.mk (Kd.R_below (rr HO895.out) hb)
                have n2_ := Aside0.mk (Kd.R_below (rr HO901.out) hb)
                have n3_ := Aside0.mk (blk_below (rb BK885.out) hb)
                have n4_ := Aside0.mk (blk_below (rb BK886.out) hb)
                have n5_ := Aside0.mk (below_step (bb HB.out) hb)
                clear HO892
                clear HO895
                clear HO901
                clear BK885
                clear BK886
                clear HB
                have HO892 := n0_
                have HO895 := n1_
                have HO901 := n2_
                have BK885 := n3_
                have BK886 := n4_
                have HB := n5_
                clear n0_ n1_ n2_ n3_ n4_ n5_
                (try clear hb)
                (try clear hb2)
                (try clear hk)
                (try clear hi)
                refine hK.out _ _ ⟨(blk_cell BK885.out 0).trans rfl, (blk_cell BK885.out 1).trans rfl, (blk_cell BK885.out 2).trans rfl, (blk_cell BK885.out 3).trans rfl, (blk_cell BK886.out 0).trans rfl, (blk_cell BK886.out 1).trans rfl, (blk_cell BK886.out 2).trans rfl, (blk_cell BK886.out 3).trans rfl, (blk_cell BK886.out 4).trans rfl, (blk_cell BK886.out 5).trans rfl⟩ (fun hHeld => ?_)
                clear hK K
                refine norm_ (a' := ?_) ?_ ?_
                rotate_left
                · show Act.put _ (some 38) _ = _
                  simp only [Act.put, List.setIfInBounds_toArray, List.set_cons_zero, List.set_cons_succ, i64_w, i32_w]
                  rfl
                refine pure_ (i := 9) (N := some 10) (v := ?_) (a' := ?_) #[true, true, true, true, true, true, true, true, true, true] rfl rfl (any_of HT_.out (by kernel_rfl)) (fun _ _ _ h => h) (Or.inl ⟨by rfl, ?_⟩) ?_ ?_
                rotate_left
                · intro w'
                  go_simp
                  with_reducible rfl
                rotate_left
                · simp only [Act.put, List.setIfInBounds_toArray, List.set_cons_zero, List.set_cons_succ, i64_w, i32_w]
                  rfl
                refine done_ (done_of HT_.out (by kernel_rfl)) ?_
                try go_wp2_with (first | ((with_reducible refine gate_callee (f := 50) rfl ?_); refine gm (some 40) Try.func50 #[.slice A0 l0.length c0] ?_; (with_reducible refine (laws_toIncludesS.calls k _ _ l0 t909 _ ?side1 ?side2 A25.out).mono ?_); (case side1 => repeat (first | exact (Kd.C_below HR0.out HB.out) | (with_reducible refine Kd.C_alloc ?_ _) | (with_reducible refine Kd.C_drewN ?_ _) | (with_reducible refine Kd.C_drew ?_))); (case side2 => exact HC0.out); rintro e w54 ⟨v910, rfl, ho0, hb⟩; refine ⟨_, rfl, ?_⟩; have n0_ := Aside0.mk (Kd.R_elder' (rr HO892.out) (Kd.R_base ho0) hb); have n1_ := Aside0.mk (Kd.R_below (rr HO895.out) hb); have n2_ := Aside0.mk (Kd.R_below (rr HO901.out) hb); have n3_ := Aside0.mk (Kd.R_lower (Kd.R_new' ho0 (Kd.R_lt (rr HO892.out))) (below_size (bb HB.out))); have n4_ := Aside0.mk (blk_below (rb BK885.out) hb); have n5_ := Aside0.mk (blk_below (rb BK886.out) hb); have n6_ := Aside0.mk (below_step (bb HB.out) hb); clear HO892; clear HO895; clear HO901; clear BK885; clear BK886; clear HB; have HO892 := n0_; have HO895 := n1_; have HO901 := n2_; have HO911 := n3_; have BK885 := n4_; have BK886 := n5_; have HB := n6_; clear n0_ n1_ n2_ n3_ n4_ n5_ n6_; (try clear hb); (try clear hb2); (try clear hk); (try clear hi); (try clear ho0)) | ((with_reducible refine gate_callee (f := 68) rfl ?_); refine gm (some 42) Try.func68 #[.slice A1 l1.length c1] ?_; (with_reducible refine (laws_toFactS.calls k _ _ l1 t912 _ ?side1 ?side2 A26.out).mono ?_); (case side1 => repeat (first | exact (Kd.C_below HR1.out HB.out) | (with_reducible refine Kd.C_alloc ?_ _) | (with_reducible refine Kd.C_drewN ?_ _) | (with_reducible refine Kd.C_drew ?_))); (case side2 => exact HC1.out); rintro e w55 ⟨v913, rfl, ho0, hb⟩; refine ⟨_, rfl, ?_⟩; have n0_ := Aside0.mk (Kd.R_below (rr HO892.out) hb); have n1_ := Aside0.mk (Kd.R_elder' (rr HO895.out) (Kd.R_base ho0) hb); have n2_ := Aside0.mk (Kd.R_below (rr HO901.out) hb); have n3_ := Aside0.mk (Kd.R_below (rr HO911.out) hb); have n4_ := Aside0.mk (Kd.R_lower (Kd.R_new' ho0 (Kd.R_lt (rr HO895.out))) (below_size (bb HB.out))); have n5_ := Aside0.mk (blk_below (rb BK885.out) hb); have n6_ := Aside0.mk (blk_below (rb BK886.out) hb); have n7_ := Aside0.mk (below_step (bb HB.out) hb); clear HO892; clear HO895; clear HO901; clear HO911; clear BK885; clear BK886; clear HB; have HO892 := n0_; have HO895 := n1_; have HO901 := n2_; have HO911 := n3_; have HO914 := n4_; have BK885 := n5_; have BK886 := n6_; have HB := n7_; clear n0_ n1_ n2_ n3_ n4_ n5_ n6_ n7_; (try clear hb); (try clear hb2); (try clear hk); (try clear hi); (try clear ho0); have hcz56_0 := cz BK885.out 0 (.int .i64 a2_0); have hcz56_1 := cz BK885.out 1 (.int .i64 a2_1); have hcz56_2 := cz BK885.out 2 (.int .i64 a2_2); have hcz56_3 := cz BK885.out 3 (.slice A2_3 l2_3.length c2_3); have hfz56_0 := blk_frozen BK885.out 0; have hfz56_1 := blk_frozen BK885.out 1; have hfz56_2 := blk_frozen BK885.out 2; have hfz56_3 := blk_frozen BK885.out 3) | ((with_reducible refine gate_callee (f := 69) rfl ?_); refine gm (some 44) Try.func69 #[.agg #[.int .i64 a2_0, .int .i64 a2_1, .int .i64 a2_2, .slice A2_3 l2_3.length c2_3]] ?_; (with_reducible refine (laws_toCond.calls k a2_0 a2_1 a2_2 _ _ l2_3 t915 t916 t917 t918 _ ?side1 ?side2 A27.out).mono ?_); (case side1 => repeat (first | exact (Kd.C_below HR2_3.out HB.out) | (with_reducible refine Kd.C_alloc ?_ _) | (with_reducible refine Kd.C_drewN ?_ _) | (with_reducible refine Kd.C_drew ?_))); (case side2 => exact HC2_3.out); rintro e w57 ⟨v919, rfl, ho0, hb⟩; refine ⟨_, rfl, ?_⟩; have n0_ := Aside0.mk (Kd.R_below (rr HO892.out) hb); have n1_ := Aside0.mk (Kd.R_below (rr HO895.out) hb); have n2_ := Aside0.mk (Kd.R_elder' (rr HO901.out) (Kd.R_base ho0) hb); have n3_ := Aside0.mk (Kd.R_below (rr HO911.out) hb); have n4_ := Aside0.mk (Kd.R_below (rr HO914.out) hb); have n5_ := Aside0.mk (Kd.R_lower (Kd.R_new' ho0 (Kd.R_lt (rr HO901.out))) (below_size (bb HB.out))); have n6_ := Aside0.mk (blk_below (rb BK885.out) hb); have n7_ := Aside0.mk (blk_below (rb BK886.out) hb); have n8_ := Aside0.mk (below_step (bb HB.out) hb); clear HO892; clear HO895; clear HO901; clear HO911; clear HO914; clear BK885; clear BK886; clear HB; have HO892 := n0_; have HO895 := n1_; have HO901 := n2_; have HO911 := n3_; have HO914 := n4_; have HO920 := n5_; have BK885 := n6_; have BK886 := n7_; have HB := n8_; clear n0_ n1_ n2_ n3_ n4_ n5_ n6_ n7_ n8_; (try clear hb); (try clear hb2); (try clear hk); (try clear hi); (try clear ho0)) | ((with_reducible refine gate_dst (N := 13) rfl ?_); refine box_event ?hg (N := 13) ?hd (cs := #[.int .i64 0, .int .i64 0, .int .i64 0, .slice none 0 0]) (t := 109) ?hr ?_; (case hd => rfl); (case hg => rfl); (case hr => first | (go_simp; done) | (go_simp; rfl)); intro gb921 hg w58 hbox hb; have n0_ := Aside0.mk (Kd.R_below (rr HO892.out) hb); have n1_ := Aside0.mk (Kd.R_below (rr HO895.out) hb); have n2_ := Aside0.mk (Kd.R_below (Kd.R_elderB (rr HO901.out) gb921 (Nat.le_of_eq hg.symm)) hb); have n3_ := Aside0.mk (Kd.R_below (rr HO911.out) hb); have n4_ := Aside0.mk (Kd.R_below (rr HO914.out) hb); have n5_ := Aside0.mk (Kd.R_below (Kd.R_elderB (rr HO920.out) gb921 (Nat.le_of_eq hg.symm)) hb); have n6_ := Aside0.mk (blk_below (rb BK885.out) hb); have n7_ := Aside0.mk (blk_below (rb BK886.out) hb); have n8_ := Aside0.mk (below_step (bb HB.out) hb); have n9_ := Aside0.mk (hbox); have n10_ := Aside0.mk ((by rw [hg]; exact (below_size (bb HB.out)) : w.heap.size ≤ gb921)); have n11_ := Aside0.mk ((by rw [hg]; exact (below_size (bb HB.out)) : w.heap.size ≤ gb921)); have n12_ := Aside0.mk ((by rw [hg]; exact Nat.ne_of_lt (blk_lt (g := gb885) (o := .cells #[.int .i64 a2_0, .int .i64 a2_1, .int .i64 a2_2, .slice A2_3 l2_3.length c2_3] 100 (0, 0)) (rb BK885.out)) : gb885 ≠ gb921)); have n13_ := Aside0.mk ((by rw [hg]; exact Nat.ne_of_gt (blk_lt (g := gb885) (o := .cells #[.int .i64 a2_0, .int .i64 a2_1, .int .i64 a2_2, .slice A2_3 l2_3.length c2_3] 100 (0, 0)) (rb BK885.out)) : gb921 ≠ gb885)); have n14_ := Aside0.mk ((by rw [hg]; exact Nat.ne_of_lt (blk_lt (g := gb886) (o := .cells #[.int .i64 a3_0, .int .i64 a3_1, .int .i64 a3_2, .int .i64 a3_3, .int .i64 a3_4, .int .i64 a3_5] 102 (0, 0)) (rb BK886.out)) : gb886 ≠ gb921)); have n15_ := Aside0.mk ((by rw [hg]; exact Nat.ne_of_gt (blk_lt (g := gb886) (o := .cells #[.int .i64 a3_0, .int .i64 a3_1, .int .i64 a3_2, .int .i64 a3_3, .int .i64 a3_4, .int .i64 a3_5] 102 (0, 0)) (rb BK886.out)) : gb921 ≠ gb886)); clear HO892; clear HO895; clear HO901; clear HO911; clear HO914; clear HO920; clear BK885; clear BK886; clear HB; have HO892 := n0_; have HO895 := n1_; have HO901 := n2_; have HO911 := n3_; have HO914 := n4_; have HO920 := n5_; have BK885 := n6_; have BK886 := n7_; have HB := n8_; have BK921 := n9_; have GW921 := n10_; have GE921 := n11_; have NB885_921 := n12_; have NB921_885 := n13_; have NB886_921 := n14_; have NB921_886 := n15_; clear n0_ n1_ n2_ n3_ n4_ n5_ n6_ n7_ n8_ n9_ n10_ n11_ n12_ n13_ n14_ n15_; clear hb hbox hg; have hnb59 := NB921_885.out; have hnc59 := NB885_921.out; have hnb60 := NB921_886.out; have hnc60 := NB886_921.out; have hcz61_0 := cz BK921.out 0 (.int .i64 0); have hcz61_1 := cz BK921.out 1 (.int .i64 0); have hcz61_2 := cz BK921.out 2 (.int .i64 0); have hcz61_3 := cz BK921.out 3 (.slice none 0 0); have hfz61_0 := blk_frozen BK921.out 0; have hfz61_1 := blk_frozen BK921.out 1; have hfz61_2 := blk_frozen BK921.out 2; have hfz61_3 := blk_frozen BK921.out 3; obtain ⟨Ao62, co62, eo62⟩ := Kd.R_slice HO920.out; subst eo62))
                have n0_ : Aside0 (Kd.R k176 176 ((((w58.setCell ⟨gb921, 0, none⟩ (.int .i64 t915)).setCell ⟨gb921, 1, none⟩ (.int .i64 t916)).setCell ⟨gb921, 2, none⟩ (.int .i64 t917)).setCell ⟨gb921, 3, none⟩ (.slice Ao62 t918.length co62)) w.heap.size (fun k_ => some k_ ≠ (v910 : Value).ownBlock) (.slice Ao50 t890.length co50) t890) := ⟨by (with_reducible repeat (first | apply Kd.R_alloc | apply Kd.R_drewN | apply Kd.R_drew)); exact Kd.R_mono (Kd.R_far (p := ⟨gb921, 3, none⟩) (Kd.R_far (p := ⟨gb921, 2, none⟩) (Kd.R_far (p := ⟨gb921, 1, none⟩) (Kd.R_far (p := ⟨gb921, 0, none⟩) (Kd.R_types HO892.out BK921.out (by decide)) (fun _ hk => hk.2) (.int .i64 t915)) (fun _ hk => hk.2) (.int .i64 t916)) (fun _ hk => hk.2) (.int .i64 t917)) (fun _ hk => hk.2) (.slice Ao62 t918.length co62)) (fun _ hk => hk.1.2)⟩
                have n1_ : Aside0 (Kd.R k119 119 ((((w58.setCell ⟨gb921, 0, none⟩ (.int .i64 t915)).setCell ⟨gb921, 1, none⟩ (.int .i64 t916)).setCell ⟨gb921, 2, none⟩ (.int .i64 t917)).setCell ⟨gb921, 3, none⟩ (.slice Ao62 t918.length co62)) w.heap.size (fun k_ => some k_ ≠ (v913 : Value).ownBlock) (.slice Ao51 t893.length co51) t893) := ⟨by (with_reducible repeat (first | apply Kd.R_alloc | apply Kd.R_drewN | apply Kd.R_drew)); exact Kd.R_mono (Kd.R_far (p := ⟨gb921, 3, none⟩) (Kd.R_far (p := ⟨gb921, 2, none⟩) (Kd.R_far (p := ⟨gb921, 1, none⟩) (Kd.R_far (p := ⟨gb921, 0, none⟩) (Kd.R_types HO895.out BK921.out (by decide)) (fun _ hk => hk.2) (.int .i64 t915)) (fun _ hk => hk.2) (.int .i64 t916)) (fun _ hk => hk.2) (.int .i64 t917)) (fun _ hk => hk.2) (.slice Ao62 t918.length co62)) (fun _ hk => hk.1.2)⟩
                have n2_ : Aside0 (Kd.R k109 109 ((((w58.setCell ⟨gb921, 0, none⟩ (.int .i64 t915)).setCell ⟨gb921, 1, none⟩ (.int .i64 t916)).setCell ⟨gb921, 2, none⟩ (.int .i64 t917)).setCell ⟨gb921, 3, none⟩ (.slice Ao62 t918.length co62)) w.heap.size (fun k_ => some k_ ≠ (.slice Ao62 t918.length co62 : Value).ownBlock ∧ k_ ≠ gb921) (.slice Ao52 t899.length co52) t899) := ⟨by (with_reducible repeat (first | apply Kd.R_alloc | apply Kd.R_drewN | apply Kd.R_drew)); exact Kd.R_mono (Kd.R_far (p := ⟨gb921, 3, none⟩) (Kd.R_far (p := ⟨gb921, 2, none⟩) (Kd.R_far (p := ⟨gb921, 1, none⟩) (Kd.R_far (p := ⟨gb921, 0, none⟩) (Kd.R_mono HO901.out (fun k_ hk => (⟨hk, hk.2⟩ : _ ∧ k_ ≠ gb921))) (fun _ hk => hk.2) (.int .i64 t915)) (fun _ hk => hk.2) (.int .i64 t916)) (fun _ hk => hk.2) (.int .i64 t917)) (fun _ hk => hk.2) (.slice Ao62 t918.length co62)) (fun _ hk => ⟨hk.1.1.2, hk.1.2⟩)⟩
                have n3_ : Aside0 (Kd.R k176 176 ((((w58.setCell ⟨gb921, 0, none⟩ (.int .i64 t915)).setCell ⟨gb921, 1, none⟩ (.int .i64 t916)).setCell ⟨gb921, 2, none⟩ (.int .i64 t917)).setCell ⟨gb921, 3, none⟩ (.slice Ao62 t918.length co62)) w.heap.size (fun k_ => some k_ ≠ (.slice Ao50 t890.length co50 : Value).ownBlock) v910 t909) := ⟨by (with_reducible repeat (first | apply Kd.R_alloc | apply Kd.R_drewN | apply Kd.R_drew)); exact Kd.R_mono (Kd.R_far (p := ⟨gb921, 3, none⟩) (Kd.R_far (p := ⟨gb921, 2, none⟩) (Kd.R_far (p := ⟨gb921, 1, none⟩) (Kd.R_far (p := ⟨gb921, 0, none⟩) (Kd.R_types HO911.out BK921.out (by decide)) (fun _ hk => hk.2) (.int .i64 t915)) (fun _ hk => hk.2) (.int .i64 t916)) (fun _ hk => hk.2) (.int .i64 t917)) (fun _ hk => hk.2) (.slice Ao62 t918.length co62)) (fun _ hk => hk.1.2)⟩
                have n4_ : Aside0 (Kd.R k119 119 ((((w58.setCell ⟨gb921, 0, none⟩ (.int .i64 t915)).setCell ⟨gb921, 1, none⟩ (.int .i64 t916)).setCell ⟨gb921, 2, none⟩ (.int .i64 t917)).setCell ⟨gb921, 3, none⟩ (.slice Ao62 t918.length co62)) w.heap.size (fun k_ => some k_ ≠ (.slice Ao51 t893.length co51 : Value).ownBlock) v913 t912) := ⟨by (with_reducible repeat (first | apply Kd.R_alloc | apply Kd.R_drewN | apply Kd.R_drew)); exact Kd.R_mono (Kd.R_far (p := ⟨gb921, 3, none⟩) (Kd.R_far (p := ⟨gb921, 2, none⟩) (Kd.R_far (p := ⟨gb921, 1, none⟩) (Kd.R_far (p := ⟨gb921, 0, none⟩) (Kd.R_types HO914.out BK921.out (by decide)) (fun _ hk => hk.2) (.int .i64 t915)) (fun _ hk => hk.2) (.int .i64 t916)) (fun _ hk => hk.2) (.int .i64 t917)) (fun _ hk => hk.2) (.slice Ao62 t918.length co62)) (fun _ hk => hk.1.2)⟩
                have n5_ : Aside0 (Kd.R k109 109 ((((w58.setCell ⟨gb921, 0, none⟩ (.int .i64 t915)).setCell ⟨gb921, 1, none⟩ (.int .i64 t916)).setCell ⟨gb921, 2, none⟩ (.int .i64 t917)).setCell ⟨gb921, 3, none⟩ (.slice Ao62 t918.length co62)) w.heap.size (fun k_ => some k_ ≠ (.slice Ao52 t899.length co52 : Value).ownBlock ∧ k_ ≠ gb921) (.slice Ao62 t918.length co62) t918) := ⟨by (with_reducible repeat (first | apply Kd.R_alloc | apply Kd.R_drewN | apply Kd.R_drew)); exact Kd.R_mono (Kd.R_far (p := ⟨gb921, 3, none⟩) (Kd.R_far (p := ⟨gb921, 2, none⟩) (Kd.R_far (p := ⟨gb921, 1, none⟩) (Kd.R_far (p := ⟨gb921, 0, none⟩) (Kd.R_mono HO920.out (fun k_ hk => (⟨hk, hk.2⟩ : _ ∧ k_ ≠ gb921))) (fun _ hk => hk.2) (.int .i64 t915)) (fun _ hk => hk.2) (.int .i64 t916)) (fun _ hk => hk.2) (.int .i64 t917)) (fun _ hk => hk.2) (.slice Ao62 t918.length co62)) (fun _ hk => ⟨hk.1.1.2, hk.1.2⟩)⟩
                have n6_ : Aside0 (((((w58.setCell ⟨gb921, 0, none⟩ (.int .i64 t915)).setCell ⟨gb921, 1, none⟩ (.int .i64 t916)).setCell ⟨gb921, 2, none⟩ (.int .i64 t917)).setCell ⟨gb921, 3, none⟩ (.slice Ao62 t918.length co62)).heap[gb885]? = some (.cells #[.int .i64 a2_0, .int .i64 a2_1, .int .i64 a2_2, .slice A2_3 l2_3.length c2_3] 100 (0, 0))) := ⟨by (with_reducible repeat (first | refine blk_drewN ?_ _ | refine blk_drew ?_ | refine blk_alloc ?_ _)); refine blk_far ?_ NB885_921.out _; (with_reducible repeat (first | refine blk_drewN ?_ _ | refine blk_drew ?_ | refine blk_alloc ?_ _)); refine blk_far ?_ NB885_921.out _; (with_reducible repeat (first | refine blk_drewN ?_ _ | refine blk_drew ?_ | refine blk_alloc ?_ _)); refine blk_far ?_ NB885_921.out _; (with_reducible repeat (first | refine blk_drewN ?_ _ | refine blk_drew ?_ | refine blk_alloc ?_ _)); refine blk_far ?_ NB885_921.out _; (with_reducible repeat (first | refine blk_drewN ?_ _ | refine blk_drew ?_ | refine blk_alloc ?_ _)); exact BK885.out⟩
                have n7_ : Aside0 (((((w58.setCell ⟨gb921, 0, none⟩ (.int .i64 t915)).setCell ⟨gb921, 1, none⟩ (.int .i64 t916)).setCell ⟨gb921, 2, none⟩ (.int .i64 t917)).setCell ⟨gb921, 3, none⟩ (.slice Ao62 t918.length co62)).heap[gb886]? = some (.cells #[.int .i64 a3_0, .int .i64 a3_1, .int .i64 a3_2, .int .i64 a3_3, .int .i64 a3_4, .int .i64 a3_5] 102 (0, 0))) := ⟨by (with_reducible repeat (first | refine blk_drewN ?_ _ | refine blk_drew ?_ | refine blk_alloc ?_ _)); refine blk_far ?_ NB886_921.out _; (with_reducible repeat (first | refine blk_drewN ?_ _ | refine blk_drew ?_ | refine blk_alloc ?_ _)); refine blk_far ?_ NB886_921.out _; (with_reducible repeat (first | refine blk_drewN ?_ _ | refine blk_drew ?_ | refine blk_alloc ?_ _)); refine blk_far ?_ NB886_921.out _; (with_reducible repeat (first | refine blk_drewN ?_ _ | refine blk_drew ?_ | refine blk_alloc ?_ _)); refine blk_far ?_ NB886_921.out _; (with_reducible repeat (first | refine blk_drewN ?_ _ | refine blk_drew ?_ | refine blk_alloc ?_ _)); exact BK886.out⟩
                have n8_ : Aside0 (((((w58.setCell ⟨gb921, 0, none⟩ (.int .i64 t915)).setCell ⟨gb921, 1, none⟩ (.int .i64 t916)).setCell ⟨gb921, 2, none⟩ (.int .i64 t917)).setCell ⟨gb921, 3, none⟩ (.slice Ao62 t918.length co62)).heap[gb921]? = some (.cells #[.int .i64 t915, .int .i64 t916, .int .i64 t917, .slice Ao62 t918.length co62] 109 (0, 0))) := ⟨by (with_reducible repeat (first | refine blk_drewN ?_ _ | refine blk_drew ?_ | refine blk_alloc ?_ _)); refine blk_put (cs := #[.int .i64 t915, .int .i64 t916, .int .i64 t917, .slice none 0 0]) ?_ 3 _ rfl; (with_reducible repeat (first | refine blk_drewN ?_ _ | refine blk_drew ?_ | refine blk_alloc ?_ _)); refine blk_put (cs := #[.int .i64 t915, .int .i64 t916, .int .i64 0, .slice none 0 0]) ?_ 2 _ rfl; (with_reducible repeat (first | refine blk_drewN ?_ _ | refine blk_drew ?_ | refine blk_alloc ?_ _)); refine blk_put (cs := #[.int .i64 t915, .int .i64 0, .int .i64 0, .slice none 0 0]) ?_ 1 _ rfl; (with_reducible repeat (first | refine blk_drewN ?_ _ | refine blk_drew ?_ | refine blk_alloc ?_ _)); refine blk_put (cs := #[.int .i64 0, .int .i64 0, .int .i64 0, .slice none 0 0]) ?_ 0 _ rfl; (with_reducible repeat (first | refine blk_drewN ?_ _ | refine blk_drew ?_ | refine blk_alloc ?_ _)); exact BK921.out⟩
                have n9_ : Aside0 (Below w.heap.size w ((((w58.setCell ⟨gb921, 0, none⟩ (.int .i64 t915)).setCell ⟨gb921, 1, none⟩ (.int .i64 t916)).setCell ⟨gb921, 2, none⟩ (.int .i64 t917)).setCell ⟨gb921, 3, none⟩ (.slice Ao62 t918.length co62))) := ⟨bb HB.out⟩
                (try clear HO892)
                (try clear HO895)
                (try clear HO901)
                (try clear HO911)
                (try clear HO914)
                (try clear HO920)
                (try clear BK885)
                (try clear BK886)
                (try clear BK921)
                (try clear HB)
                generalize ((((w58.setCell ⟨gb921, 0, none⟩ (.int .i64 t915)).setCell ⟨gb921, 1, none⟩ (.int .i64 t916)).setCell ⟨gb921, 2, none⟩ (.int .i64 t917)).setCell ⟨gb921, 3, none⟩ (.slice Ao62 t918.length co62)) = w63 at n0_ n1_ n2_ n3_ n4_ n5_ n6_ n7_ n8_ n9_ ⊢
                have HO892 := n0_
                have HO895 := n1_
                have HO901 := n2_
                have HO911 := n3_
                have HO914 := n4_
                have HO920 := n5_
                have BK885 := n6_
                have BK886 := n7_
                have BK921 := n8_
                have HB := n9_
                clear n0_ n1_ n2_ n3_ n4_ n5_ n6_ n7_ n8_ n9_
                have n0_ := Aside0.mk (Kd.R_drew HO892.out)
                have n1_ := Aside0.mk (Kd.R_drew HO895.out)
                have n2_ := Aside0.mk (Kd.R_drew HO901.out)
                have n3_ := Aside0.mk (Kd.R_drew HO911.out)
                have n4_ := Aside0.mk (Kd.R_drew HO914.out)
                have n5_ := Aside0.mk (Kd.R_drew HO920.out)
                have n6_ := Aside0.mk (blk_drew BK885.out)
                have n7_ := Aside0.mk (blk_drew BK886.out)
                have n8_ := Aside0.mk (blk_drew BK921.out)
                have n9_ := Aside0.mk (below_drew1 HB.out)
                clear HO892
                clear HO895
                clear HO901
                clear HO911
                clear HO914
                clear HO920
                clear BK885
                clear BK886
                clear BK921
                clear HB
                have HO892 := n0_
                have HO895 := n1_
                have HO901 := n2_
                have HO911 := n3_
                have HO914 := n4_
                have HO920 := n5_
                have BK885 := n6_
                have BK886 := n7_
                have BK921 := n8_
                have HB := n9_
                clear n0_ n1_ n2_ n3_ n4_ n5_ n6_ n7_ n8_ n9_
                refine start_ (n := 7) (S := fun w' => w'.cell? ⟨gb921, 0, none⟩ = some (.int .i64 t915) ∧ w'.cell? ⟨gb921, 1, none⟩ = some (.int .i64 t916) ∧ w'.cell? ⟨gb921, 2, none⟩ = some (.int .i64 t917) ∧ w'.cell? ⟨gb921, 3, none⟩ = some (.slice Ao62 t918.length co62) ∧ w'.cell? ⟨gb886, 0, none⟩ = some (.int .i64 a3_0) ∧ w'.cell? ⟨gb886, 1, none⟩ = some (.int .i64 a3_1) ∧ w'.cell? ⟨gb886, 2, none⟩ = some (.int .i64 a3_2) ∧ w'.cell? ⟨gb886, 3, none⟩ = some (.int .i64 a3_3) ∧ w'.cell? ⟨gb886, 4, none⟩ = some (.int .i64 a3_4) ∧ w'.cell? ⟨gb886, 5, none⟩ = some (.int .i64 a3_5)) (ds := []) #[false, false, false, false, false, false, false] (by kernel_rfl) rfl rfl ⟨(blk_cell BK921.out 0).trans rfl, (blk_cell BK921.out 1).trans rfl, (blk_cell BK921.out 2).trans rfl, (blk_cell BK921.out 3).trans rfl, (blk_cell BK886.out 0).trans rfl, (blk_cell BK886.out 1).trans rfl, (blk_cell BK886.out 2).trans rfl, (blk_cell BK886.out 3).trans rfl, (blk_cell BK886.out 4).trans rfl, (blk_cell BK886.out 5).trans rfl⟩ (fun hHeld => ?_)
                generalize w63.drew = w64 at HO892 HO895 HO901 HO911 HO914 HO920 BK885 BK886 BK921 HB hHeld ⊢
                refine pure_ (i := 0) (N := some 45) (v := ?_) (a' := ?_) #[true, false, false, false, false, false, false] rfl rfl (by kernel_rfl) (fun _ _ _ h => h) (Or.inl ⟨by rfl, ?_⟩) ?_ ?_
                rotate_left
                · intro w'
                  go_simp
                  with_reducible rfl
                rotate_left
                · simp only [Act.put, List.setIfInBounds_toArray, List.set_cons_zero, List.set_cons_succ, i64_w, i32_w]
                  rfl
                refine pure_ (i := 1) (N := some 46) (v := ?_) (a' := ?_) #[true, true, false, false, false, false, false] rfl rfl (by kernel_rfl) (fun _ _ _ h => h) (Or.inl ⟨by rfl, ?_⟩) ?_ ?_
                rotate_left
                · intro w'
                  go_simp
                  with_reducible rfl
                rotate_left
                · simp only [Act.put, List.setIfInBounds_toArray, List.set_cons_zero, List.set_cons_succ, i64_w, i32_w]
                  rfl
                refine take_ (i := 2) (N := some 47) (v := ?_) (a' := ?_) #[true, true, true, false, false, false, false] rfl rfl (by kernel_rfl) (fun _ _ _ h => h) (Or.inl ⟨by rfl, ?_⟩) hHeld ?_ ?_
                rotate_left
                · rintro w' ⟨s0, s1, s2, s3, s4, s5, s6, s7, s8, s9⟩
                  go_simp
                  with_reducible rfl
                rotate_left
                · simp only [Act.put, List.setIfInBounds_toArray, List.set_cons_zero, List.set_cons_succ, i64_w, i32_w]
                  rfl
                refine take_ (i := 3) (N := some 48) (v := ?_) (a' := ?_) #[true, true, true, true, false, false, false] rfl rfl (by kernel_rfl) (fun _ _ _ h => h) (Or.inl ⟨by rfl, ?_⟩) hHeld ?_ ?_
                rotate_left
                · rintro w' ⟨s0, s1, s2, s3, s4, s5, s6, s7, s8, s9⟩
                  go_simp
                  with_reducible rfl
                rotate_left
                · simp only [Act.put, List.setIfInBounds_toArray, List.set_cons_zero, List.set_cons_succ, i64_w, i32_w]
                  rfl
                refine one_ (i := 4) (N := some 49) #[true, true, true, true, true, false, false] rfl rfl (by kernel_rfl) (by decide) (fun K hK => ?_)
                refine goes_ Try.func70 (by kernel_rfl) rfl #[.agg #[.int .i64 a3_0, .int .i64 a3_1, .int .i64 a3_2, .int .i64 a3_3, .int .i64 a3_4, .int .i64 a3_5]] (by rfl) rfl rfl (by (try simp only [List.map_toArray, List.map_cons, List.map_nil]); first | done | rfl | (simp only [List.length_drop, List.length_take]; rfl)) ?_
                with_reducible refine (laws_toRequest.calls a3_0 a3_1 a3_2 a3_3 a3_4 a3_5 t922 t923 t924 t925 t926 t927 _ A28.out).mono ?_
                rintro e w65 ⟨rfl, hb⟩
                refine ⟨_, rfl, ?_⟩
                have n0_ := Aside0.mk (Kd.R_below (rr HO892.out) hb)
                have n1_ := Aside0.mk (Kd.R_below (rr HO895.out) hb)
                have n2_ := Aside0.mk (Kd.R_below (rr HO901.out) hb)
                have n3_ := Aside0.mk (Kd.R_below (rr HO911.out) hb)
                have n4_ := Aside0.mk (Kd.R_below (rr HO914.out) hb)
                have n5_ := Aside0.mk (Kd.R_below (rr HO920.out) hb)
                have n6_ := Aside0.mk (blk_below (rb BK885.out) hb)
                have n7_ := Aside0.mk (blk_below (rb BK886.out) hb)
                have n8_ := Aside0.mk (blk_below (rb BK921.out) hb)
                have n9_ := Aside0.mk (below_step (bb HB.out) hb)
                clear HO892
                clear HO895
                clear HO901
                clear HO911
                clear HO914
                clear HO920
                clear BK885
                clear BK886
                clear BK921
                clear HB
                have HO892 := n0_
                have HO895 := n1_
                have HO901 := n2_
                have HO911 := n3_
                have HO914 := n4_
                have HO920 := n5_
                have BK885 := n6_
                have BK886 := n7_
                have BK921 := n8_
                have HB := n9_
                clear n0_ n1_ n2_ n3_ n4_ n5_ n6_ n7_ n8_ n9_
                (try clear hb)
                (try clear hb2)
                (try clear hk)
                (try clear hi)
                obtain ⟨Ao66, co66, eo66⟩ := Kd.R_slice HO911.out
                (first | subst eo66 | (injection eo66 with f1_ f2_ f3_; have f4_ := f1_.symm; have f5_ := f3_.symm; clear f1_ f2_ f3_; subst f4_; subst f5_))
                obtain ⟨Ao67, co67, eo67⟩ := Kd.R_slice HO914.out
                (first | subst eo67 | (injection eo67 with f1_ f2_ f3_; have f4_ := f1_.symm; have f5_ := f3_.symm; clear f1_ f2_ f3_; subst f4_; subst f5_))
                refine hK.out _ _ ⟨(blk_cell BK921.out 0).trans rfl, (blk_cell BK921.out 1).trans rfl, (blk_cell BK921.out 2).trans rfl, (blk_cell BK921.out 3).trans rfl, (blk_cell BK886.out 0).trans rfl, (blk_cell BK886.out 1).trans rfl, (blk_cell BK886.out 2).trans rfl, (blk_cell BK886.out 3).trans rfl, (blk_cell BK886.out 4).trans rfl, (blk_cell BK886.out 5).trans rfl⟩ (fun hHeld => ?_)
                clear hK K
                refine norm_ (a' := ?_) ?_ ?_
                rotate_left
                · show Act.put _ (some 49) _ = _
                  simp only [Act.put, List.setIfInBounds_toArray, List.set_cons_zero, List.set_cons_succ, i64_w, i32_w]
                  rfl
                refine one_ (i := 5) (N := some 50) #[true, true, true, true, true, true, false] rfl rfl (by kernel_rfl) (by decide) (fun K hK => ?_)
                refine goes_ Try.func71 (by kernel_rfl) rfl #[.slice Ao66 t909.length co66, .slice Ao67 t912.length co67, .agg #[.int .i64 t915, .int .i64 t916, .int .i64 t917, .slice Ao62 t918.length co62], .agg #[.int .i64 t922, .int .i64 t923, .int .i64 t924, .int .i64 t925, .int .i64 t926, .int .i64 t927]] (by rfl) rfl rfl (by (try simp only [List.map_toArray, List.map_cons, List.map_nil]); first | done | rfl | (simp only [List.length_drop, List.length_take]; rfl)) ?_
                with_reducible refine (impl_LeafHolds.calls k _ _ t909 _ _ t912 t915 t916 t917 _ _ t918 t922 t923 t924 t925 t926 t927 t928 _ ?side1 ?side2 ?side3 ?side4 ?side5 ?side6 A29.out).mono ?_
                (case side1 => repeat (first | exact (Kd.R_reads' HO911.out).2.2 | (with_reducible refine Kd.C_alloc ?_ _) | (with_reducible refine Kd.C_drewN ?_ _) | (with_reducible refine Kd.C_drew ?_)))
                (case side2 => exact (Kd.R_reads' HO911.out).2.1)
                (case side3 => repeat (first | exact (Kd.R_reads' HO914.out).2.2 | (with_reducible refine Kd.C_alloc ?_ _) | (with_reducible refine Kd.C_drewN ?_ _) | (with_reducible refine Kd.C_drew ?_)))
                (case side4 => exact (Kd.R_reads' HO914.out).2.1)
                (case side5 => repeat (first | exact (Kd.R_reads' HO920.out).2.2 | (with_reducible refine Kd.C_alloc ?_ _) | (with_reducible refine Kd.C_drewN ?_ _) | (with_reducible refine Kd.C_drew ?_)))
                (case side6 => exact (Kd.R_reads' HO920.out).2.1)
                rintro e w68 ⟨rfl, hb⟩
                refine ⟨_, rfl, ?_⟩
                have n0_ := Aside0.mk (Kd.R_below (rr HO892.out) hb)
                have n1_ := Aside0.mk (Kd.R_below (rr HO895.out) hb)
                have n2_ := Aside0.mk (Kd.R_below (rr HO901.out) hb)
                have n3_ := Aside0.mk (Kd.R_below (rr HO911.out) hb)
                have n4_ := Aside0.mk (Kd.R_below (rr HO914.out) hb)
                have n5_ := Aside0.mk (Kd.R_below (rr HO920.out) hb)
                have n6_ := Aside0.mk (blk_below (rb BK885.out) hb)
                have n7_ := Aside0.mk (blk_below (rb BK886.out) hb)
                have n8_ := Aside0.mk (blk_below (rb BK921.out) hb)
                have n9_ := Aside0.mk (below_step (bb HB.out) hb)
                clear HO892
                clear HO895
                clear HO901
                clear HO911
                clear HO914
                clear HO920
                clear BK885
                clear BK886
                clear BK921
                clear HB
                have HO892 := n0_
                have HO895 := n1_
                have HO901 := n2_
                have HO911 := n3_
                have HO914 := n4_
                have HO920 := n5_
                have BK885 := n6_
                have BK886 := n7_
                have BK921 := n8_
                have HB := n9_
                clear n0_ n1_ n2_ n3_ n4_ n5_ n6_ n7_ n8_ n9_
                (try clear hb)
                (try clear hb2)
                (try clear hk)
                (try clear hi)
                refine hK.out _ _ ⟨(blk_cell BK921.out 0).trans rfl, (blk_cell BK921.out 1).trans rfl, (blk_cell BK921.out 2).trans rfl, (blk_cell BK921.out 3).trans rfl, (blk_cell BK886.out 0).trans rfl, (blk_cell BK886.out 1).trans rfl, (blk_cell BK886.out 2).trans rfl, (blk_cell BK886.out 3).trans rfl, (blk_cell BK886.out 4).trans rfl, (blk_cell BK886.out 5).trans rfl⟩ (fun hHeld => ?_)
                clear hK K
                refine norm_ (a' := ?_) ?_ ?_
                rotate_left
                · show Act.put _ (some 50) _ = _
                  simp only [Act.put, List.setIfInBounds_toArray, List.set_cons_zero, List.set_cons_succ, i64_w, i32_w]
                  rfl
                refine pure_ (i := 6) (N := some 14) (v := ?_) (a' := ?_) #[true, true, true, true, true, true, true] rfl rfl (by kernel_rfl) (fun _ _ _ h => h) (Or.inl ⟨by rfl, ?_⟩) ?_ ?_
                rotate_left
                · intro w'
                  go_simp
                  with_reducible rfl
                rotate_left
                · simp only [Act.put, List.setIfInBounds_toArray, List.set_cons_zero, List.set_cons_succ, i64_w, i32_w]
                  rfl
                refine done_ (by kernel_rfl) ?_
                try go_wp2_with (first | ((with_reducible refine gate_callee (f := 50) rfl ?_); refine gm (some 56) Try.func50 #[.slice A0 l0.length c0] ?_; (with_reducible refine (laws_toIncludesS.calls k _ _ l0 t929 _ ?side1 ?side2 A31.out).mono ?_); (case side1 => repeat (first | exact (Kd.C_below HR0.out HB.out) | (with_reducible refine Kd.C_alloc ?_ _) | (with_reducible refine Kd.C_drewN ?_ _) | (with_reducible refine Kd.C_drew ?_))); (case side2 => exact HC0.out); rintro e w69 ⟨v930, rfl, ho0, hb⟩; refine ⟨_, rfl, ?_⟩; have n0_ := Aside0.mk (Kd.R_elder' (rr HO892.out) (Kd.R_base ho0) hb); have n1_ := Aside0.mk (Kd.R_below (rr HO895.out) hb); have n2_ := Aside0.mk (Kd.R_below (rr HO901.out) hb); have n3_ := Aside0.mk (Kd.R_elder' (rr HO911.out) (Kd.R_base ho0) hb); have n4_ := Aside0.mk (Kd.R_below (rr HO914.out) hb); have n5_ := Aside0.mk (Kd.R_below (rr HO920.out) hb); have n6_ := Aside0.mk (Kd.R_lower (Kd.R_new' (Kd.R_new' ho0 (Kd.R_lt (rr HO892.out))) (Kd.R_lt (rr HO911.out))) (below_size (bb HB.out))); have n7_ := Aside0.mk (blk_below (rb BK885.out) hb); have n8_ := Aside0.mk (blk_below (rb BK886.out) hb); have n9_ := Aside0.mk (blk_below (rb BK921.out) hb); have n10_ := Aside0.mk (below_step (bb HB.out) hb); clear HO892; clear HO895; clear HO901; clear HO911; clear HO914; clear HO920; clear BK885; clear BK886; clear BK921; clear HB; have HO892 := n0_; have HO895 := n1_; have HO901 := n2_; have HO911 := n3_; have HO914 := n4_; have HO920 := n5_; have HO931 := n6_; have BK885 := n7_; have BK886 := n8_; have BK921 := n9_; have HB := n10_; clear n0_ n1_ n2_ n3_ n4_ n5_ n6_ n7_ n8_ n9_ n10_; (try clear hb); (try clear hb2); (try clear hk); (try clear hi); (try clear ho0); obtain ⟨Ao70, co70, eo70⟩ := Kd.R_slice HO931.out; subst eo70) | ((with_reducible refine gate_callee (f := 54) rfl ?_); refine gm (some 57) Try.func54 #[.slice Ao66 t909.length co66, .slice Ao70 t929.length co70] ?_; (with_reducible refine (laws_eqIncludesS.calls k _ _ t909 _ _ t929 true _ ?side1 ?side2 ?side3 ?side4 A32.out).mono ?_); (case side1 => repeat (first | exact (Kd.R_reads' HO911.out).2.2 | (with_reducible refine Kd.C_alloc ?_ _) | (with_reducible refine Kd.C_drewN ?_ _) | (with_reducible refine Kd.C_drew ?_))); (case side2 => exact (Kd.R_reads' HO911.out).2.1); (case side3 => repeat (first | exact (Kd.R_reads' HO931.out).2.2 | (with_reducible refine Kd.C_alloc ?_ _) | (with_reducible refine Kd.C_drewN ?_ _) | (with_reducible refine Kd.C_drew ?_))); (case side4 => exact (Kd.R_reads' HO931.out).2.1); rintro e w71 ⟨rfl, hb⟩; refine ⟨_, rfl, ?_⟩; have n0_ := Aside0.mk (Kd.R_below (rr HO892.out) hb); have n1_ := Aside0.mk (Kd.R_below (rr HO895.out) hb); have n2_ := Aside0.mk (Kd.R_below (rr HO901.out) hb); have n3_ := Aside0.mk (Kd.R_below (rr HO911.out) hb); have n4_ := Aside0.mk (Kd.R_below (rr HO914.out) hb); have n5_ := Aside0.mk (Kd.R_below (rr HO920.out) hb); have n6_ := Aside0.mk (Kd.R_below (rr HO931.out) hb); have n7_ := Aside0.mk (blk_below (rb BK885.out) hb); have n8_ := Aside0.mk (blk_below (rb BK886.out) hb); have n9_ := Aside0.mk (blk_below (rb BK921.out) hb); have n10_ := Aside0.mk (below_step (bb HB.out) hb); clear HO892; clear HO895; clear HO901; clear HO911; clear HO914; clear HO920; clear HO931; clear BK885; clear BK886; clear BK921; clear HB; have HO892 := n0_; have HO895 := n1_; have HO901 := n2_; have HO911 := n3_; have HO914 := n4_; have HO920 := n5_; have HO931 := n6_; have BK885 := n7_; have BK886 := n8_; have BK921 := n9_; have HB := n10_; clear n0_ n1_ n2_ n3_ n4_ n5_ n6_ n7_ n8_ n9_ n10_; (try clear hb); (try clear hb2); (try clear hk); (try clear hi)) | ((with_reducible refine gate_callee (f := 68) rfl ?_); refine gm (some 61) Try.func68 #[.slice A1 l1.length c1] ?_; (with_reducible refine (laws_toFactS.calls k _ _ l1 t933 _ ?side1 ?side2 A34.out).mono ?_); (case side1 => repeat (first | exact (Kd.C_below HR1.out HB.out) | (with_reducible refine Kd.C_alloc ?_ _) | (with_reducible refine Kd.C_drewN ?_ _) | (with_reducible refine Kd.C_drew ?_))); (case side2 => exact HC1.out); rintro e w72 ⟨v934, rfl, ho0, hb⟩; refine ⟨_, rfl, ?_⟩; have n0_ := Aside0.mk (Kd.R_below (rr HO892.out) hb); have n1_ := Aside0.mk (Kd.R_elder' (rr HO895.out) (Kd.R_base ho0) hb); have n2_ := Aside0.mk (Kd.R_below (rr HO901.out) hb); have n3_ := Aside0.mk (Kd.R_below (rr HO911.out) hb); have n4_ := Aside0.mk (Kd.R_elder' (rr HO914.out) (Kd.R_base ho0) hb); have n5_ := Aside0.mk (Kd.R_below (rr HO920.out) hb); have n6_ := Aside0.mk (Kd.R_below (rr HO931.out) hb); have n7_ := Aside0.mk (Kd.R_lower (Kd.R_new' (Kd.R_new' ho0 (Kd.R_lt (rr HO895.out))) (Kd.R_lt (rr HO914.out))) (below_size (bb HB.out))); have n8_ := Aside0.mk (blk_below (rb BK885.out) hb); have n9_ := Aside0.mk (blk_below (rb BK886.out) hb); have n10_ := Aside0.mk (blk_below (rb BK921.out) hb); have n11_ := Aside0.mk (below_step (bb HB.out) hb); clear HO892; clear HO895; clear HO901; clear HO911; clear HO914; clear HO920; clear HO931; clear BK885; clear BK886; clear BK921; clear HB; have HO892 := n0_; have HO895 := n1_; have HO901 := n2_; have HO911 := n3_; have HO914 := n4_; have HO920 := n5_; have HO931 := n6_; have HO935 := n7_; have BK885 := n8_; have BK886 := n9_; have BK921 := n10_; have HB := n11_; clear n0_ n1_ n2_ n3_ n4_ n5_ n6_ n7_ n8_ n9_ n10_ n11_; (try clear hb); (try clear hb2); (try clear hk); (try clear hi); (try clear ho0); obtain ⟨Ao73, co73, eo73⟩ := Kd.R_slice HO935.out; subst eo73) | ((with_reducible refine gate_callee (f := 72) rfl ?_); refine gm (some 62) Try.func72 #[.slice Ao67 t912.length co67, .slice Ao73 t933.length co73] ?_; (with_reducible refine (laws_eqFactS.calls k _ _ t912 _ _ t933 true _ ?side1 ?side2 ?side3 ?side4 A35.out).mono ?_); (case side1 => repeat (first | exact (Kd.R_reads' HO914.out).2.2 | (with_reducible refine Kd.C_alloc ?_ _) | (with_reducible refine Kd.C_drewN ?_ _) | (with_reducible refine Kd.C_drew ?_))); (case side2 => exact (Kd.R_reads' HO914.out).2.1); (case side3 => repeat (first | exact (Kd.R_reads' HO935.out).2.2 | (with_reducible refine Kd.C_alloc ?_ _) | (with_reducible refine Kd.C_drewN ?_ _) | (with_reducible refine Kd.C_drew ?_))); (case side4 => exact (Kd.R_reads' HO935.out).2.1); rintro e w74 ⟨rfl, hb⟩; refine ⟨_, rfl, ?_⟩; have n0_ := Aside0.mk (Kd.R_below (rr HO892.out) hb); have n1_ := Aside0.mk (Kd.R_below (rr HO895.out) hb); have n2_ := Aside0.mk (Kd.R_below (rr HO901.out) hb); have n3_ := Aside0.mk (Kd.R_below (rr HO911.out) hb); have n4_ := Aside0.mk (Kd.R_below (rr HO914.out) hb); have n5_ := Aside0.mk (Kd.R_below (rr HO920.out) hb); have n6_ := Aside0.mk (Kd.R_below (rr HO931.out) hb); have n7_ := Aside0.mk (Kd.R_below (rr HO935.out) hb); have n8_ := Aside0.mk (blk_below (rb BK885.out) hb); have n9_ := Aside0.mk (blk_below (rb BK886.out) hb); have n10_ := Aside0.mk (blk_below (rb BK921.out) hb); have n11_ := Aside0.mk (below_step (bb HB.out) hb); clear HO892; clear HO895; clear HO901; clear HO911; clear HO914; clear HO920; clear HO931; clear HO935; clear BK885; clear BK886; clear BK921; clear HB; have HO892 := n0_; have HO895 := n1_; have HO901 := n2_; have HO911 := n3_; have HO914 := n4_; have HO920 := n5_; have HO931 := n6_; have HO935 := n7_; have BK885 := n8_; have BK886 := n9_; have BK921 := n10_; have HB := n11_; clear n0_ n1_ n2_ n3_ n4_ n5_ n6_ n7_ n8_ n9_ n10_ n11_; (try clear hb); (try clear hb2); (try clear hk); (try clear hi)))
                have n0_ := Aside0.mk (Kd.R_drew HO892.out)
                have n1_ := Aside0.mk (Kd.R_drew HO895.out)
                have n2_ := Aside0.mk (Kd.R_drew HO901.out)
                have n3_ := Aside0.mk (Kd.R_drew HO911.out)
                have n4_ := Aside0.mk (Kd.R_drew HO914.out)
                have n5_ := Aside0.mk (Kd.R_drew HO920.out)
                have n6_ := Aside0.mk (Kd.R_drew HO931.out)
                have n7_ := Aside0.mk (Kd.R_drew HO935.out)
                have n8_ := Aside0.mk (blk_drew BK885.out)
                have n9_ := Aside0.mk (blk_drew BK886.out)
                have n10_ := Aside0.mk (blk_drew BK921.out)
                have n11_ := Aside0.mk (below_drew1 HB.out)
                clear HO892
                clear HO895
                clear HO901
                clear HO911
                clear HO914
                clear HO920
                clear HO931
                clear HO935
                clear BK885
                clear BK886
                clear BK921
                clear HB
                have HO892 := n0_
                have HO895 := n1_
                have HO901 := n2_
                have HO911 := n3_
                have HO914 := n4_
                have HO920 := n5_
                have HO931 := n6_
                have HO935 := n7_
                have BK885 := n8_
                have BK886 := n9_
                have BK921 := n10_
                have HB := n11_
                clear n0_ n1_ n2_ n3_ n4_ n5_ n6_ n7_ n8_ n9_ n10_ n11_
                refine start_ (n := 5) (S := fun w' => w'.cell? ⟨gb921, 0, none⟩ = some (.int .i64 t915) ∧ w'.cell? ⟨gb921, 1, none⟩ = some (.int .i64 t916) ∧ w'.cell? ⟨gb921, 2, none⟩ = some (.int .i64 t917) ∧ w'.cell? ⟨gb921, 3, none⟩ = some (.slice Ao62 t918.length co62) ∧ w'.cell? ⟨gb885, 0, none⟩ = some (.int .i64 a2_0) ∧ w'.cell? ⟨gb885, 1, none⟩ = some (.int .i64 a2_1) ∧ w'.cell? ⟨gb885, 2, none⟩ = some (.int .i64 a2_2) ∧ w'.cell? ⟨gb885, 3, none⟩ = some (.slice A2_3 l2_3.length c2_3)) (ds := []) #[false, false, false, false, false] (by kernel_rfl) rfl rfl ⟨(blk_cell BK921.out 0).trans rfl, (blk_cell BK921.out 1).trans rfl, (blk_cell BK921.out 2).trans rfl, (blk_cell BK921.out 3).trans rfl, (blk_cell BK885.out 0).trans rfl, (blk_cell BK885.out 1).trans rfl, (blk_cell BK885.out 2).trans rfl, (blk_cell BK885.out 3).trans rfl⟩ (fun hHeld => ?_)
                generalize w74.drew = w75 at HO892 HO895 HO901 HO911 HO914 HO920 HO931 HO935 BK885 BK886 BK921 HB hHeld ⊢
                refine take_ (i := 0) (N := some 64) (v := ?_) (a' := ?_) #[true, false, false, false, false] rfl rfl (by kernel_rfl) (fun _ _ _ h => h) (Or.inl ⟨by rfl, ?_⟩) hHeld ?_ ?_
                rotate_left
                · rintro w' ⟨s0, s1, s2, s3, s4, s5, s6, s7⟩
                  go_simp
                  with_reducible rfl
                rotate_left
                · simp only [Act.put, List.setIfInBounds_toArray, List.set_cons_zero, List.set_cons_succ, i64_w, i32_w]
                  rfl
                refine take_ (i := 1) (N := some 65) (v := ?_) (a' := ?_) #[true, true, false, false, false] rfl rfl (by kernel_rfl) (fun _ _ _ h => h) (Or.inl ⟨by rfl, ?_⟩) hHeld ?_ ?_
                rotate_left
                · rintro w' ⟨s0, s1, s2, s3, s4, s5, s6, s7⟩
                  go_simp
                  with_reducible rfl
                rotate_left
                · simp only [Act.put, List.setIfInBounds_toArray, List.set_cons_zero, List.set_cons_succ, i64_w, i32_w]
                  rfl
                refine one_ (i := 2) (N := some 66) #[true, true, true, false, false] rfl rfl (by kernel_rfl) (by decide) (fun K hK => ?_)
                refine goes_ Try.func69 (by kernel_rfl) rfl #[.agg #[.int .i64 a2_0, .int .i64 a2_1, .int .i64 a2_2, .slice A2_3 l2_3.length c2_3]] (by rfl) rfl rfl (by (try simp only [List.map_toArray, List.map_cons, List.map_nil]); first | done | rfl | (simp only [List.length_drop, List.length_take]; rfl)) ?_
                with_reducible refine (laws_toCond.calls k a2_0 a2_1 a2_2 _ _ l2_3 t937 t938 t939 t940 _ ?side1 ?side2 A37.out).mono ?_
                (case side1 => repeat (first | exact (Kd.C_below HR2_3.out HB.out) | (with_reducible refine Kd.C_alloc ?_ _) | (with_reducible refine Kd.C_drewN ?_ _) | (with_reducible refine Kd.C_drew ?_)))
                (case side2 => exact HC2_3.out)
                rintro e w76 ⟨v941, rfl, ho0, hb⟩
                refine ⟨_, rfl, ?_⟩
                have n0_ := Aside0.mk (Kd.R_below (rr HO892.out) hb)
                have n1_ := Aside0.mk (Kd.R_below (rr HO895.out) hb)
                have n2_ := Aside0.mk (Kd.R_elder' (rr HO901.out) (Kd.R_base ho0) hb)
                have n3_ := Aside0.mk (Kd.R_below (rr HO911.out) hb)
                have n4_ := Aside0.mk (Kd.R_below (rr HO914.out) hb)
                have n5_ := Aside0.mk (Kd.R_elder' (rr HO920.out) (Kd.R_base ho0) hb)
                have n6_ := Aside0.mk (Kd.R_below (rr HO931.out) hb)
                have n7_ := Aside0.mk (Kd.R_below (rr HO935.out) hb)
                have n8_ := Aside0.mk (Kd.R_lower (Kd.R_newB (Kd.R_new' (Kd.R_new' ho0 (Kd.R_lt (rr HO901.out))) (Kd.R_lt (rr HO920.out))) (g := gb921) (o := .cells #[.int .i64 t915, .int .i64 t916, .int .i64 t917, .slice Ao62 t918.length co62] 109 (0, 0)) (rb BK921.out)) (below_size (bb HB.out)))
                have n9_ := Aside0.mk (blk_below (rb BK885.out) hb)
                have n10_ := Aside0.mk (blk_below (rb BK886.out) hb)
                have n11_ := Aside0.mk (blk_below (rb BK921.out) hb)
                have n12_ := Aside0.mk (below_step (bb HB.out) hb)
                clear HO892
                clear HO895
                clear HO901
                clear HO911
                clear HO914
                clear HO920
                clear HO931
                clear HO935
                clear BK885
                clear BK886
                clear BK921
                clear HB
                have HO892 := n0_
                have HO895 := n1_
                have HO901 := n2_
                have HO911 := n3_
                have HO914 := n4_
                have HO920 := n5_
                have HO931 := n6_
                have HO935 := n7_
                have HO942 := n8_
                have BK885 := n9_
                have BK886 := n10_
                have BK921 := n11_
                have HB := n12_
                clear n0_ n1_ n2_ n3_ n4_ n5_ n6_ n7_ n8_ n9_ n10_ n11_ n12_
                (try clear hb)
                (try clear hb2)
                (try clear hk)
                (try clear hi)
                (try clear ho0)
                obtain ⟨Ao77, co77, eo77⟩ := Kd.R_slice HO942.out
                (first | subst eo77 | (injection eo77 with f1_ f2_ f3_; have f4_ := f1_.symm; have f5_ := f3_.symm; clear f1_ f2_ f3_; subst f4_; subst f5_))
                refine hK.out _ _ ⟨(blk_cell BK921.out 0).trans rfl, (blk_cell BK921.out 1).trans rfl, (blk_cell BK921.out 2).trans rfl, (blk_cell BK921.out 3).trans rfl, (blk_cell BK885.out 0).trans rfl, (blk_cell BK885.out 1).trans rfl, (blk_cell BK885.out 2).trans rfl, (blk_cell BK885.out 3).trans rfl⟩ (fun hHeld => ?_)
                clear hK K
                refine norm_ (a' := ?_) ?_ ?_
                rotate_left
                · show Act.put _ (some 66) _ = _
                  simp only [Act.put, List.setIfInBounds_toArray, List.set_cons_zero, List.set_cons_succ, i64_w, i32_w]
                  rfl
                refine one_ (i := 3) (N := some 67) #[true, true, true, true, false] rfl rfl (by kernel_rfl) (by decide) (fun K hK => ?_)
                refine goes_ Try.func73 (by kernel_rfl) rfl #[.agg #[.int .i64 t915, .int .i64 t916, .int .i64 t917, .slice Ao62 t918.length co62], .agg #[.int .i64 t937, .int .i64 t938, .int .i64 t939, .slice Ao77 t940.length co77]] (by rfl) rfl rfl (by (try simp only [List.map_toArray, List.map_cons, List.map_nil]); first | done | rfl | (simp only [List.length_drop, List.length_take]; rfl)) ?_
                with_reducible refine (laws_eqCond.calls k t915 t916 t917 _ _ t918 t937 t938 t939 _ _ t940 true _ ?side1 ?side2 ?side3 ?side4 A38.out).mono ?_
                (case side1 => repeat (first | exact (Kd.R_reads' HO920.out).2.2 | (with_reducible refine Kd.C_alloc ?_ _) | (with_reducible refine Kd.C_drewN ?_ _) | (with_reducible refine Kd.C_drew ?_)))
                (case side2 => exact (Kd.R_reads' HO920.out).2.1)
                (case side3 => repeat (first | exact (Kd.R_reads' HO942.out).2.2 | (with_reducible refine Kd.C_alloc ?_ _) | (with_reducible refine Kd.C_drewN ?_ _) | (with_reducible refine Kd.C_drew ?_)))
                (case side4 => exact (Kd.R_reads' HO942.out).2.1)
                rintro e w78 ⟨rfl, hb⟩
                refine ⟨_, rfl, ?_⟩
                have n0_ := Aside0.mk (Kd.R_below (rr HO892.out) hb)
                have n1_ := Aside0.mk (Kd.R_below (rr HO895.out) hb)
                have n2_ := Aside0.mk (Kd.R_below (rr HO901.out) hb)
                have n3_ := Aside0.mk (Kd.R_below (rr HO911.out) hb)
                have n4_ := Aside0.mk (Kd.R_below (rr HO914.out) hb)
                have n5_ := Aside0.mk (Kd.R_below (rr HO920.out) hb)
                have n6_ := Aside0.mk (Kd.R_below (rr HO931.out) hb)
                have n7_ := Aside0.mk (Kd.R_below (rr HO935.out) hb)
                have n8_ := Aside0.mk (Kd.R_below (rr HO942.out) hb)
                have n9_ := Aside0.mk (blk_below (rb BK885.out) hb)
                have n10_ := Aside0.mk (blk_below (rb BK886.out) hb)
                have n11_ := Aside0.mk (blk_below (rb BK921.out) hb)
                have n12_ := Aside0.mk (below_step (bb HB.out) hb)
                clear HO892
                clear HO895
                clear HO901
                clear HO911
                clear HO914
                clear HO920
                clear HO931
                clear HO935
                clear HO942
                clear BK885
                clear BK886
                clear BK921
                clear HB
                have HO892 := n0_
                have HO895 := n1_
                have HO901 := n2_
                have HO911 := n3_
                have HO914 := n4_
                have HO920 := n5_
                have HO931 := n6_
                have HO935 := n7_
                have HO942 := n8_
                have BK885 := n9_
                have BK886 := n10_
                have BK921 := n11_
                have HB := n12_
                clear n0_ n1_ n2_ n3_ n4_ n5_ n6_ n7_ n8_ n9_ n10_ n11_ n12_
                (try clear hb)
                (try clear hb2)
                (try clear hk)
                (try clear hi)
                refine hK.out _ _ ⟨(blk_cell BK921.out 0).trans rfl, (blk_cell BK921.out 1).trans rfl, (blk_cell BK921.out 2).trans rfl, (blk_cell BK921.out 3).trans rfl, (blk_cell BK885.out 0).trans rfl, (blk_cell BK885.out 1).trans rfl, (blk_cell BK885.out 2).trans rfl, (blk_cell BK885.out 3).trans rfl⟩ (fun hHeld => ?_)
                clear hK K
                refine norm_ (a' := ?_) ?_ ?_
                rotate_left
                · show Act.put _ (some 67) _ = _
                  simp only [Act.put, List.setIfInBounds_toArray, List.set_cons_zero, List.set_cons_succ, i64_w, i32_w]
                  rfl
                refine pure_ (i := 4) (N := some 68) (v := ?_) (a' := ?_) #[true, true, true, true, true] rfl rfl (by kernel_rfl) (fun _ _ _ h => h) (Or.inl ⟨by rfl, ?_⟩) ?_ ?_
                rotate_left
                · intro w'
                  go_simp
                  with_reducible rfl
                rotate_left
                · simp only [Act.put, List.setIfInBounds_toArray, List.set_cons_zero, List.set_cons_succ, i64_w, i32_w]
                  rfl
                refine done_ (by kernel_rfl) ?_
                try go_wp2
                go_ret
                exact ⟨by first | rfl | (simp [errW_none, errW_some] <;> rfl) | (simp [*, errW_none, errW_some] <;> rfl), bb HB.out⟩
              · replace c39 := Bool.eq_false_iff.mpr c39
                subst c39
                have H1 : (none) = some r := by rw [if_neg (show ¬ (false = true) by decide)] at H; exact H
                clear H
                have H := H1
                clear H1
                exact absurd H (by simp)
            · replace c36 := Bool.eq_false_iff.mpr c36
              subst c36
              have H1 : (none) = some r := by rw [if_neg (show ¬ (false = true) by decide)] at H; exact H
              clear H
              have H := H1
              clear H1
              exact absurd H (by simp)
          · replace c33 := Bool.eq_false_iff.mpr c33
            subst c33
            have H1 : (none) = some r := by rw [if_neg (show ¬ (false = true) by decide)] at H; exact H
            clear H
            have H := H1
            clear H1
            exact absurd H (by simp)
end Go.Proofs.Ytbfochojhmggfaa.R
end
section
namespace Go.Proofs.Ytbfochojhmggfaa.PFacts
open Go.RowKit Go.Proofs.Ytbfochojhmggfaa.R Go.Proofs.YtbfochojhmggfaaW.PrintWords Go.Proofs.Ytbfochojhmggfaa.Base Go.Proofs.Ytbfochojhmggfaa.PTree
set_option linter.unusedVariables false
set_option linter.unusedSimpArgs false
abbrev LI := S178
abbrev II := S176
abbrev LF := S189
abbrev IF_ := S119
def cvI (x : LI) : II := ⟨x.f0, x.f1⟩
def cvF (x : LF) : IF_ := ⟨x.f0, x.f1, x.f2, x.f3, x.f4, x.f5⟩
theorem rdLI (xs : List LI) {i : Nat} (h : i < xs.length) : rd_T178 xs (i : Int) = xs[i] := getD_at xs _ h
theorem rdII (xs : List II) {i : Nat} (h : i < xs.length) : rd_T176 xs (i : Int) = xs[i] := getD_at xs _ h
theorem rdLF (xs : List LF) {i : Nat} (h : i < xs.length) : rd_T189 xs (i : Int) = xs[i] := getD_at xs _ h
theorem rdIF (xs : List IF_) {i : Nat} (h : i < xs.length) : rd_T119 xs (i : Int) = xs[i] := getD_at xs _ h
theorem szI_eq (l : List LI) (a : Int) (hl : l.length ≤ 9223372036854775807) (h0 : 0 ≤ a) (h1 : a ≤ 1048576) : laws_szIncludesS.f l a = some (left l.length a) := by
  unfold laws_szIncludesS.f left
  rw [wrap_id (by omega) (by omega)]
  by_cases h : (l.length : Int) ≤ a
  · rw [if_neg (by omega), if_pos h]
  · rw [if_pos (by omega), if_neg h]
theorem szF_eq (l : List LF) (a : Int) (hl : l.length ≤ 9223372036854775807) (h0 : 0 ≤ a) (h1 : a ≤ 1048576) : laws_szFactS.f l a = some (left l.length a) := by
  unfold laws_szFactS.f left
  rw [wrap_id (by omega) (by omega)]
  by_cases h : (l.length : Int) ≤ a
  · rw [if_neg (by omega), if_pos h]
  · rw [if_pos (by omega), if_neg h]
theorem toI_ev (l : List LI) (hl : l.length ≤ 1048576) : Ev (fun k => laws_toIncludesS.f k l) (l.map cvI) := by
  have key : ∀ i, i ≤ l.length → Ev (fun k => laws_toIncludesS.l0 k l ((l.take i).map cvI ++ List.replicate (l.length - i) z176) (i : Int)) (l.map cvI) := by
    refine down ?_ ?_
    · refine Ev.shift ?_
      simp only [laws_toIncludesS.l0]
      exact Ev.if_neg (by omega) (Ev.val (fill_done _ _ _))
    · intro i hi ih
      refine Ev.shift ?_
      simp only [laws_toIncludesS.l0, laws_toIncludes.f, Option.bind_some]
      refine Ev.if_pos (by omega) (Ev.if_pos (by omega) (Ev.if_pos (by rw [fill_length _ _ _ (by omega)]; omega) ?_))
      rw [wrap_succ (by omega), rdLI l hi, Int.toNat_natCast]
      have := fill_set cvI z176 l hi
      simp only [cvI] at this ⊢
      rw [this]
      exact ih
  have h0 := key 0 (by omega)
  rw [fill_none] at h0
  simp only [laws_toIncludesS.f]
  refine Ev.if_pos (by omega) (Ev.if_pos (by omega) ?_)
  rw [Int.toNat_natCast]
  exact h0
theorem toF_ev (l : List LF) (hl : l.length ≤ 1048576) : Ev (fun k => laws_toFactS.f k l) (l.map cvF) := by
  have key : ∀ i, i ≤ l.length → Ev (fun k => laws_toFactS.l0 k l ((l.take i).map cvF ++ List.replicate (l.length - i) z119) (i : Int)) (l.map cvF) := by
    refine down ?_ ?_
    · refine Ev.shift ?_
      simp only [laws_toFactS.l0]
      exact Ev.if_neg (by omega) (Ev.val (fill_done _ _ _))
    · intro i hi ih
      refine Ev.shift ?_
      simp only [laws_toFactS.l0, laws_toFact.f, Option.bind_some]
      refine Ev.if_pos (by omega) (Ev.if_pos (by omega) (Ev.if_pos (by rw [fill_length _ _ _ (by omega)]; omega) ?_))
      rw [wrap_succ (by omega), rdLF l hi, Int.toNat_natCast]
      have := fill_set cvF z119 l hi
      simp only [cvF] at this ⊢
      rw [this]
      exact ih
  have h0 := key 0 (by omega)
  rw [fill_none] at h0
  simp only [laws_toFactS.f]
  refine Ev.if_pos (by omega) (Ev.if_pos (by omega) ?_)
  rw [Int.toNat_natCast]
  exact h0
theorem eqI_ev (l : List II) (hl : l.length ≤ 1048576) : Ev (fun k => laws_eqIncludesS.f k l l) true := by
  simp only [laws_eqIncludesS.f]
  refine Ev.if_pos (by trivial) ?_
  have key : ∀ i, i ≤ l.length → Ev (fun k => laws_eqIncludesS.l0 k l l (i : Int)) true := by
    refine down ?_ ?_
    · refine Ev.shift ?_
      simp only [laws_eqIncludesS.l0]
      exact Ev.if_neg (by omega) (Ev.now _)
    · intro i hi ihd
      refine Ev.shift ?_
      simp only [laws_eqIncludesS.l0]
      refine Ev.if_pos (by omega) (Ev.if_pos (by omega) (Ev.if_pos (by omega) ?_))
      rw [rdII l hi, wrap_succ (by omega)]
      simp only [laws_eqIncludes.f, if_true, Option.bind_some]
      exact ihd
  exact key 0 (by omega)
theorem eqF_ev (l : List IF_) (hl : l.length ≤ 1048576) : Ev (fun k => laws_eqFactS.f k l l) true := by
  simp only [laws_eqFactS.f]
  refine Ev.if_pos (by trivial) ?_
  have key : ∀ i, i ≤ l.length → Ev (fun k => laws_eqFactS.l0 k l l (i : Int)) true := by
    refine down ?_ ?_
    · refine Ev.shift ?_
      simp only [laws_eqFactS.l0]
      exact Ev.if_neg (by omega) (Ev.now _)
    · intro i hi ihd
      refine Ev.shift ?_
      simp only [laws_eqFactS.l0]
      refine Ev.if_pos (by omega) (Ev.if_pos (by omega) (Ev.if_pos (by omega) ?_))
      rw [rdIF l hi, wrap_succ (by omega)]
      simp only [laws_eqFact.f, if_true, Option.bind_some]
      exact ihd
  exact key 0 (by omega)
open Facts in
theorem s_in (x a b : Int) : spec_l1In.f x a b = some (inR x a b) := by
  unfold spec_l1In.f inR
  by_cases h : a ≤ x
  · rw [if_pos h]; simp [h]
  · rw [if_neg h]; simp [h]
theorem s_kind (n k : Int) : spec_HasKind.f n k = some (Facts.kindB n k) := by
  unfold spec_HasKind.f spec_IsName.f Facts.kindB
  simp only [s_in, Option.bind_some]
  by_cases h : Facts.inR n 10 49 = true
  · have h2 := of_decide_eq_true h
    have h3 : Int.tdiv n 10 = n / 10 := Int.tdiv_eq_ediv_of_nonneg (by omega)
    have h4 : wrap64 (Int.tdiv n 10) = Int.tdiv n 10 := by rw [h3]; unfold wrap64; omega
    rw [if_pos h]
    simp only [h4, h2.1, h2.2, true_and]
    rfl
  · rw [if_neg h]
    unfold Facts.inR at h
    simp only [decide_eq_true_eq] at h
    simp only [Option.some.injEq]
    symm
    rw [decide_eq_false_iff_not]
    omega
theorem s_fact (k s v i a u : Int) : spec_IsFact.f k s v i a u = some (Facts.factB k s v i a u) := by
  unfold spec_IsFact.f spec_IsTime.f Facts.factB Facts.claimB
  simp only [s_in, s_kind, Option.bind_some]
  repeat' split
  all_goals (first | rfl | simp_all)
theorem s_holds (k s v i a u now age : Int) : spec_HoldsAt.f k s v i a u now age = some (Facts.holdsB k s v i a u now age) := by
  unfold spec_HoldsAt.f spec_IsWithin.f spec_IsFresh.f spec_AgeOf.f spec_IsTime.f Facts.holdsB
  simp only [s_in, s_fact, Option.bind_some]
  by_cases h : Facts.factB k s v i a u = true
  · have hf := h
    simp only [Facts.factB, Bool.and_eq_true] at hf
    obtain ⟨⟨⟨⟨_, _⟩, h1⟩, h2⟩, _⟩ := hf
    rw [if_pos h, if_pos h1, if_pos h2]
    by_cases h3 : Facts.inR now 0 10000 = true
    · have h1' := of_decide_eq_true h1
      have h3' := of_decide_eq_true h3
      rw [if_pos h3]
      simp only [h1, h, h3, Bool.true_and, if_true, Option.bind_some]
      by_cases h4 : a ≤ now
      · have h6 : wrap64 (now - a) = now - a := by unfold wrap64; omega
        rw [if_pos h4, if_neg (by omega : ¬ a > now)]
        by_cases h5 : now ≤ u
        · have h7 : (0 : Int) ≤ now - a := by omega
          simp [h4, h5, h6, h7]
        · simp [h5]
      · rw [if_neg h4]
        simp [h4]
    · rw [if_neg h3]
      simp [h3]
  · rw [if_neg h]
    simp [h]
end Go.Proofs.Ytbfochojhmggfaa.PFacts
end
section
namespace Go.Proofs.Ytbfochojhmggfaa.PRoles
open Go.RowKit Go.Proofs.Ytbfochojhmggfaa.R Go.Proofs.YtbfochojhmggfaaW.PrintWords Go.Proofs.Ytbfochojhmggfaa.Base Go.Proofs.Ytbfochojhmggfaa.Roles Go.Proofs.Ytbfochojhmggfaa.PFacts
set_option linter.unusedVariables false
set_option linter.unusedSimpArgs false
def sstep (m : List Bool) (x : II) : List Bool := if inO m x.f0 ∧ (0 ≤ x.f1 ∧ x.f1 ≤ 5) then m.set x.f1.toNat true else m
def pass (l : List II) (m : List Bool) : List Bool := l.foldl sstep m
def passes (l : List II) : Nat → List Bool → List Bool
  | 0, m => m
  | n + 1, m => passes l n (pass l m)
theorem sstep_len {m : List Bool} {x : II} (h : m.length = 6) : (sstep m x).length = 6 := by unfold sstep; split <;> simpa using h
theorem fold_slen : ∀ (l : List II) {m : List Bool}, m.length = 6 → (l.foldl sstep m).length = 6
  | [], _, h => h
  | x :: l, _, h => fold_slen l (sstep_len h)
theorem inO_sstep {m : List Bool} {x : II} (h : m.length = 6) (b : Int) : inO (sstep m x) b ↔ inO m b ∨ (inO m x.f0 ∧ (0 ≤ x.f1 ∧ x.f1 ≤ 5) ∧ b = x.f1) := by
  unfold sstep
  by_cases hc : inO m x.f0 ∧ (0 ≤ x.f1 ∧ x.f1 ≤ 5)
  · rw [if_pos hc, inO_set h hc.2]
    constructor
    · rintro (rfl | h)
      · exact .inr ⟨hc.1, hc.2, rfl⟩
      · exact .inl h
    · rintro (h | ⟨_, _, rfl⟩)
      · exact .inr h
      · exact .inl rfl
  · rw [if_neg hc]
    exact ⟨.inl, fun h => h.elim id fun h => absurd ⟨h.1, h.2.1⟩ hc⟩
theorem count_le (m : List Bool) : m.count true ≤ m.length := List.count_le_length
theorem sstep_count {m : List Bool} {x : II} (h : m.length = 6) : (sstep m x = m ∧ (inO m x.f0 → (0 ≤ x.f1 ∧ x.f1 ≤ 5) → inO m x.f1)) ∨ m.count true < (sstep m x).count true := by
  by_cases hc : inO m x.f0 ∧ (0 ≤ x.f1 ∧ x.f1 ≤ 5)
  · by_cases hm : inO m x.f1
    · refine .inl ⟨?_, fun _ _ => hm⟩
      unfold sstep
      rw [if_pos hc]
      have h2 := hm.2
      rw [List.getD_eq_getElem?_getD, List.getElem?_eq_getElem (by omega)] at h2
      have h3 : m[x.f1.toNat]'(by omega) = true := h2
      rw [← h3]
      exact List.set_getElem_self _
    · refine .inr ?_
      have h1 := (not_inO hc.2).1 hm
      have h2 := count_set (o := m) (j := x.f1.toNat) (by omega) h1
      have e : sstep m x = m.set x.f1.toNat true := by unfold sstep; rw [if_pos hc]
      rw [e]
      have c1 : ∀ m : List Bool, m.count true + m.count false = m.length := by
        intro m
        induction m with
        | nil => rfl
        | cons b m ih => cases b <;> simp [List.count_cons] <;> omega
      have a1 := c1 m
      have a2 := c1 (m.set x.f1.toNat true)
      rw [List.length_set] at a2
      omega
  · refine .inl ⟨by unfold sstep; rw [if_neg hc], fun h1 h2 => absurd ⟨h1, h2⟩ hc⟩
def closed (l : List II) (m : List Bool) : Prop := ∀ x ∈ l, inO m x.f0 → (0 ≤ x.f1 ∧ x.f1 ≤ 5) → inO m x.f1
theorem fold_count : ∀ (l : List II) {m : List Bool}, m.length = 6 → (l.foldl sstep m = m ∧ closed l m) ∨ m.count true < (l.foldl sstep m).count true
  | [], m, h => .inl ⟨rfl, fun x hx => absurd hx (by simp)⟩
  | x :: l, m, h => by
    rw [List.foldl_cons]
    have h2 := fold_count l (sstep_len (x := x) h)
    rcases sstep_count (x := x) h with ⟨e, hcl⟩ | hlt
    · rw [e] at h2 ⊢
      rcases h2 with ⟨e2, hcl2⟩ | h2
      · refine .inl ⟨e2, fun y hy => ?_⟩
        rcases List.mem_cons.1 hy with rfl | hy
        · exact hcl
        · exact hcl2 y hy
      · exact .inr h2
    · refine .inr ?_
      rcases h2 with ⟨e2, _⟩ | h2
      · rw [e2]; exact hlt
      · omega
theorem passes_fix (l : List II) {m : List Bool} (h : pass l m = m) : ∀ n, passes l n m = m
  | 0 => rfl
  | n + 1 => by rw [passes, h]; exact passes_fix l h n
theorem passes_closed (l : List II) : ∀ n (m : List Bool), m.length = 6 → 6 < n + m.count true → closed l (passes l n m)
  | 0, m, h, hn => by have := count_le m; omega
  | n + 1, m, h, hn => by
    rcases fold_count l h with ⟨e, hc⟩ | hlt
    · rw [passes_fix l e]; exact hc
    · rw [passes]
      exact passes_closed l n _ (fold_slen l h) (by unfold pass; omega)
theorem fold_in : ∀ (l l' : List II) (role : Int) {m : List Bool}, (∀ x ∈ l', x ∈ l) → m.length = 6 → (∀ b, inO m b → b = role ∨ Rch l role b) → ∀ b, inO (l'.foldl sstep m) b → b = role ∨ Rch l role b
  | l, [], role, m, hl, h, hs, b, hb => hs b hb
  | l, x :: l', role, m, hl, h, hs, b, hb => by
    refine fold_in l l' role (fun y hy => hl y (by simp [hy])) (sstep_len (x := x) h) (fun b hb => ?_) b hb
    rcases (inO_sstep h b).1 hb with hb | ⟨h1, h2, rfl⟩
    · exact hs b hb
    · rcases hs _ h1 with h3 | h3
      · exact .inr (.one x (hl x (by simp)) h3 h2)
      · exact .inr (.more x (hl x (by simp)) h3 h2)
theorem fold_mono : ∀ (l : List II) {m : List Bool}, m.length = 6 → ∀ b, inO m b → inO (l.foldl sstep m) b
  | [], m, h, b, hb => hb
  | x :: l, m, h, b, hb => fold_mono l (sstep_len (x := x) h) b ((inO_sstep h b).2 (.inl hb))
theorem passes_in (l : List II) (role : Int) : ∀ n {m : List Bool}, m.length = 6 → (∀ b, inO m b → b = role ∨ Rch l role b) → ∀ b, inO (passes l n m) b → b = role ∨ Rch l role b
  | 0, _, _, hs, b, hb => hs b hb
  | n + 1, _, h, hs, b, hb => passes_in l role n (fold_slen l h) (fold_in l l role (fun _ h => h) h hs) b hb
theorem passes_mono (l : List II) : ∀ n {m : List Bool}, m.length = 6 → ∀ b, inO m b → inO (passes l n m) b
  | 0, _, _, b, hb => hb
  | n + 1, _, h, b, hb => passes_mono l n (fold_slen l h) b (fold_mono l h b hb)
def start (role : Int) : List Bool := (List.replicate 6 false).set role.toNat true
theorem start_len (role : Int) : (start role).length = 6 := by simp [start]
theorem start_in {role : Int} (hr : 0 ≤ role ∧ role ≤ 5) (b : Int) : inO (start role) b ↔ b = role := by
  unfold start
  rw [inO_set (by simp) hr]
  refine ⟨fun h => h.elim id fun h => ?_, .inl⟩
  have := h.2
  rw [List.getD_eq_getElem?_getD, List.getElem?_replicate] at this
  split at this <;> simp at this
theorem final_iff (l : List II) {role : Int} (hr : 0 ≤ role ∧ role ≤ 5) (b : Int) : inO (passes l 6 (start role)) b ↔ b = role ∨ Rch l role b := by
  have hc := passes_closed l 6 (start role) (start_len role) (by
    have := count_set (o := List.replicate 6 false) (j := role.toNat) (by simp; omega) (by rw [List.getD_eq_getElem?_getD, List.getElem?_replicate]; split <;> rfl)
    have c1 : ∀ m : List Bool, m.count true + m.count false = m.length := by
      intro m
      induction m with
      | nil => rfl
      | cons b m ih => cases b <;> simp [List.count_cons] <;> omega
    have a2 := c1 (start role)
    rw [start_len] at a2
    have a3 : (List.replicate 6 false).count false = 6 := by decide
    unfold start at a2 ⊢
    omega)
  have h0 := passes_mono l 6 (start_len role) role ((start_in hr role).2 rfl)
  refine ⟨passes_in l role 6 (start_len role) (fun b hb => .inl ((start_in hr b).1 hb)) b, ?_⟩
  rintro (rfl | h)
  · exact h0
  · induction h with
    | one x hx e hr2 => exact hc x hx (e ▸ h0) hr2
    | more x hx _ hr2 ih => exact hc x hx ih hr2
theorem s_l1 (l : List II) (acc : List Int) (j : Int) (r : List Int) (hl : l.length ≤ 1048576) : ∀ i, i ≤ l.length → ∀ m : List Bool, m.length = 6 →
    Ev (fun k => spec_RolesUnder.l0 k l acc ((l.drop i).foldl sstep m) (wrap64 (j + 1))) r → Ev (fun k => spec_RolesUnder.l1 k l acc m j (i : Int)) r := by
  refine down ?_ ?_
  · intro m hm h
    refine Ev.shift ?_
    simp only [spec_RolesUnder.l1]
    rw [List.drop_length] at h
    exact Ev.if_neg (by omega) h
  · intro i hi ih m hm h
    rw [List.drop_eq_getElem_cons hi, List.foldl_cons] at h
    refine Ev.shift ?_
    simp only [spec_RolesUnder.l1]
    refine Ev.if_pos (by omega) (Ev.if_pos (by omega) ?_)
    rw [rdII l hi, wrap_succ (by omega)]
    refine Ev.call (s_in _ _ _) ?_
    by_cases h1 : Facts.inR l[i].f0 0 5 = true
    · have h1' := of_decide_eq_true h1
      refine Ev.if_pos h1 (Ev.call (s_in _ _ _) ?_)
      by_cases h2 : Facts.inR l[i].f1 0 5 = true
      · have h2' := of_decide_eq_true h2
        refine Ev.if_pos h2 (Ev.if_pos (by omega) (Ev.if_pos (by omega) ?_))
        by_cases h3 : rdOf false m l[i].f0 = true
        · have e : sstep m l[i] = m.set l[i].f1.toNat true := by unfold sstep; rw [if_pos ⟨⟨h1', h3⟩, h2'⟩]
          rw [e] at h
          exact Ev.if_pos h3 (Ev.if_pos (by omega) (Ev.if_pos (by omega) (ih _ (by simpa using hm) h)))
        · have e : sstep m l[i] = m := by unfold sstep; rw [if_neg (fun hc => h3 hc.1.2)]
          rw [e] at h
          exact Ev.if_neg h3 (ih _ hm h)
      · have e : sstep m l[i] = m := by unfold sstep; rw [if_neg (fun hc => h2 (decide_eq_true hc.2))]
        rw [e] at h
        exact Ev.if_neg h2 (ih _ hm h)
    · have e : sstep m l[i] = m := by unfold sstep; rw [if_neg (fun hc => h1 (decide_eq_true hc.1.1))]
      rw [e] at h
      exact Ev.if_neg h1 (ih _ hm h)
def listed (m : List Bool) (j : Nat) : List Int := ((List.range' j (6 - j)).filter (fun r => m.getD r false)).map Int.ofNat
theorem listed_step (m : List Bool) {j : Nat} (h : j < 6) : listed m j = (if m.getD j false = true then [(j : Int)] else []) ++ listed m (j + 1) := by
  unfold listed
  rw [show 6 - j = (6 - (j + 1)) + 1 by omega, List.range'_succ, List.filter_cons]
  split <;> simp
theorem s_l2 (m : List Bool) (hm : m.length = 6) : ∀ j, j ≤ 6 → ∀ acc : List Int, acc.length ≤ j → Ev (fun k => spec_RolesUnder.l2 k acc m (j : Int)) (acc ++ listed m j) := by
  refine down ?_ ?_
  · intro acc _
    refine Ev.shift ?_
    simp only [spec_RolesUnder.l2]
    exact Ev.if_neg (by omega) (Ev.val (by simp [listed]))
  · intro j hj ih acc hacc
    refine Ev.shift ?_
    simp only [spec_RolesUnder.l2]
    refine Ev.if_pos (by omega) (Ev.if_pos (by omega) (Ev.if_pos (by omega) ?_))
    rw [wrap_succ (by omega), listed_step m hj]
    have e : rdOf false m (j : Int) = m.getD j false := by unfold rdOf; rw [Int.toNat_natCast]
    rw [e]
    refine Ev.ite (fun hc => ?_) (fun hc => ?_)
    · refine Ev.if_pos (by omega) (Ev.to (ih (acc ++ [(j : Int)]) (by simp; omega)) ?_)
      rw [if_pos hc]; simp
    · refine Ev.to (ih acc (by omega)) ?_
      rw [if_neg hc]; simp
theorem s_l0 (l : List II) (hl : l.length ≤ 1048576) : ∀ j : Nat, j ≤ 6 → ∀ m : List Bool, m.length = 6 → Ev (fun k => spec_RolesUnder.l0 k l [] m (j : Int)) (listed (passes l (6 - j) m) 0) := by
  refine down ?_ ?_
  · intro m hm
    refine Ev.shift ?_
    simp only [spec_RolesUnder.l0]
    exact Ev.if_neg (by omega) (s_l2 m hm 0 (by omega) [] (by simp))
  · intro j hj ih m hm
    refine Ev.shift ?_
    simp only [spec_RolesUnder.l0]
    refine Ev.if_pos (by omega) (s_l1 l [] _ _ hl 0 (by omega) m hm ?_)
    rw [wrap_succ (by omega), List.drop_zero, show 6 - j = (6 - (j + 1)) + 1 by omega, passes]
    exact ih _ (fold_slen l hm)
theorem under_eq (l : List II) {role : Int} (hr : 0 ≤ role ∧ role ≤ 5) : under l role = listed (passes l 6 (start role)) 0 := by
  unfold under listed
  rw [if_pos hr, List.range_eq_range']
  congr 1
  refine List.filter_congr (fun r hmem => ?_)
  have hr6 : r < 6 := by simpa using hmem
  have h1 := final_iff l hr (r : Int)
  have h2 := reached_iff l role (r : Int)
  have e : ∀ m : List Bool, m.getD r false = true ↔ inO m (r : Int) := fun m => by unfold inO; rw [Int.toNat_natCast]; exact ⟨fun h => ⟨by omega, h⟩, fun h => h.2⟩
  rw [Bool.eq_iff_iff, Bool.or_eq_true, decide_eq_true_eq, e, e, h1, h2]
  exact Or.comm
theorem s_under (l : List II) (role : Int) (hl : l.length ≤ 1048576) : Ev (fun k => spec_RolesUnder.f k l role) (under l role) := by
  simp only [spec_RolesUnder.f, Option.bind_some]
  refine Ev.call (s_in _ _ _) ?_
  by_cases h : Facts.inR role 0 5 = true
  · have h' := of_decide_eq_true h
    refine Ev.if_pos h (Ev.if_pos (by omega) ?_)
    refine Ev.if_pos (by omega) (Ev.if_pos (by simp; omega) (Ev.to (s_l0 l hl 0 (by omega) (start role) (start_len role)) ?_))
    rw [under_eq l h']
  · refine Ev.if_neg h (Ev.val ?_)
    unfold under
    rw [if_neg (fun hc => h (decide_eq_true hc))]
end Go.Proofs.Ytbfochojhmggfaa.PRoles
end
