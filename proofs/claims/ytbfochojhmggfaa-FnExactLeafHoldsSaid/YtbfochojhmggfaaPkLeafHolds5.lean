import Derived.Test.YtbfochojhmggfaaPkLeafHolds4
import Derived.ArgAppend
import Derived.Below
import Derived.BigQuiet
import Derived.Deep.AppendLies
import Derived.Deep.CutBlock
import Derived.Deep.DeepCutAuto
import Derived.Deep.Draws
import Derived.Deep.LoopGhost
import Derived.Deep.OwnRows
import Derived.Deep.QuietTactic
import Derived.Deep.RegionHeld3
import Derived.Ground.Names2Prog
import Derived.IntWalk
import Derived.KernelRfl
import Derived.Laws.BitsLemmas
import Derived.Laws.BytesArg
import Derived.Laws.IdiomCopy
import Derived.Laws.MakeOwn
import Derived.Laws.OwnMore
import Derived.Laws.Rows
import Derived.Laws.Slices
import Derived.Laws.StructEq
import Derived.Lib.AppendStr
import Derived.Lib.ConvBytes
import Derived.Lib.OwnBridge
import Derived.Maps.AppendAt
import Derived.OrdersHeld
import Derived.OwnWalk
import Derived.RowKit
import Derived.RowKit3
import Derived.Shelf.Slices.Cells
import Derived.Shelf.Slices.CompactI
import Derived.Shelf.Slices.In.SortNone
import Derived.Shelf.Slices.SearchI
import Derived.Shelf.Slices.Turned
import Derived.Shelf.Small.Bits
import Derived.Shelf.Small.Wraps
import Derived.Shelf.Sort.Plain
import Derived.Shelf.Strconv.Itoa0
import Derived.Sort.OwnSortedInts
import Derived.Tactics
import Derived.Test.YtbfochojhmggfaaProg
import Derived.WalkKit
import Derived.WideLaws
section
namespace Go.Proofs.Ytbfochojhmggfaa.PTree
open Go.RowKit Go.Proofs.Ytbfochojhmggfaa.R Go.Proofs.YtbfochojhmggfaaW.PrintWords Go.Proofs.Ytbfochojhmggfaa.Base
set_option linter.unusedVariables false
abbrev LC := S100
abbrev IC := S109
theorem ind {P : LC → Prop} (h : ∀ a b c l, (∀ y ∈ l, P y) → P ⟨a, b, c, l⟩) : ∀ x, P x
  | ⟨a, b, c, l⟩ => h a b c l (fun y hy => ind h y)
termination_by x => SizeOf.sizeOf x
decreasing_by
  simp_wf
  have := List.sizeOf_lt_of_mem hy
  omega
mutual
def fit : LC → Prop
  | ⟨_, _, _, l⟩ => l.length ≤ 9223372036854775807 ∧ fits l
def fits : List LC → Prop
  | [] => True
  | x :: xs => fit x ∧ fits xs
end
theorem fits_iff : ∀ l : List LC, fits l ↔ ∀ x ∈ l, fit x
  | [] => by simp [fits]
  | x :: xs => by rw [fits, fits_iff xs]; simp
theorem fit_of : ∀ x : LC, ∀ (w : World) (A : Option Addr), Kd.C k100 w A x.f3.length x.f3 → fit x := by
  refine ind ?_
  intro a b c l ih w A h
  rw [fit, fits_iff]
  refine ⟨h.2.1, fun y hy => ?_⟩
  obtain ⟨j, hj, rfl⟩ := List.getElem_of_mem hy
  obtain ⟨ad, A3, c3, rfl, _, _, _, _, _, h3⟩ := at_T100 h (j : Int) (by omega) (by simpa using hj)
  have e : rd_T100 l (j : Int) = l[j] := getD_at l _ hj
  rw [e] at h3
  exact ih _ hy w A3 h3
theorem fits_of {w : World} {A : Option Addr} {l : List LC} (h : Kd.C k100 w A l.length l) : l.length ≤ 9223372036854775807 ∧ fits l := by
  have := fit_of ⟨0, 0, 0, l⟩ w A h
  rwa [fit] at this
mutual
def siz : LC → Nat
  | ⟨_, _, _, l⟩ => sizs l
def sizs : List LC → Nat
  | [] => 0
  | x :: xs => 1 + siz x + sizs xs
end
theorem sizs_ge : ∀ l : List LC, l.length ≤ sizs l
  | [] => Nat.le_refl _
  | x :: xs => by have := sizs_ge xs; rw [sizs, List.length_cons]; omega
mutual
def cv : LC → IC
  | ⟨a, b, c, l⟩ => ⟨a, b, c, cvs l⟩
def cvs : List LC → List IC
  | [] => []
  | x :: xs => cv x :: cvs xs
end
theorem cvs_map : ∀ l : List LC, cvs l = l.map cv
  | [] => rfl
  | x :: xs => by rw [cvs, List.map_cons, cvs_map xs]
def left (n : Nat) (a : Int) : Int := if (n : Int) ≤ a then a - n else -1
theorem rdC (xs : List LC) {i : Nat} (h : i < xs.length) : rd_T100 xs (i : Int) = xs[i] := getD_at xs _ h
theorem rdI (xs : List IC) {i : Nat} (h : i < xs.length) : rd_T109 xs (i : Int) = xs[i] := getD_at xs _ h
theorem szs_of (l : List LC) (hl : l.length ≤ 9223372036854775807) (a : Int) (h0 : 0 ≤ a) (h1 : a ≤ 1048576)
    (ih : ∀ y ∈ l, ∀ a : Int, 0 ≤ a → a ≤ 1048576 → Ev (fun k => laws_szCond.f k y.f0 y.f1 y.f2 y.f3 a) (left (siz y) a)) :
    Ev (fun k => laws_szCondS.f k l a) (left (sizs l) a) := by
  have hg := sizs_ge l
  refine Ev.shift ?_
  simp only [laws_szCondS.f]
  by_cases hn : (l.length : Int) ≤ a
  · rw [wrap_id (by omega) (by omega)]
    refine Ev.if_neg (by omega) ?_
    have key : ∀ i, i ≤ l.length → ∀ b : Int, 0 ≤ b → b ≤ 1048576 → Ev (fun k => laws_szCondS.l0 k l b (i : Int)) (left (sizs (l.drop i) - (l.drop i).length) b) := by
      refine down ?_ ?_
      · intro b hb0 hb1
        refine Ev.shift ?_
        simp only [laws_szCondS.l0]
        refine Ev.if_neg (by omega) (Ev.val ?_)
        rw [List.drop_length]
        simp [left, sizs, hb0]
      · intro i hi ihd b hb0 hb1
        refine Ev.shift ?_
        simp only [laws_szCondS.l0]
        refine Ev.if_pos (by omega) (Ev.if_pos (by omega) ?_)
        rw [rdC l hi, wrap_succ (by omega)]
        refine Ev.bind (ih _ (List.getElem_mem hi) b hb0 hb1) ?_
        have hge := sizs_ge (l.drop (i + 1))
        have hd : sizs (l.drop i) - (l.drop i).length = siz l[i] + (sizs (l.drop (i + 1)) - (l.drop (i + 1)).length) := by
          rw [List.drop_eq_getElem_cons hi, sizs, List.length_cons]
          omega
        rw [hd]
        by_cases hs : (siz l[i] : Int) ≤ b
        · have e : left (siz l[i]) b = b - siz l[i] := by rw [left, if_pos hs]
          rw [e]
          refine Ev.if_neg (by omega) (Ev.to (ihd _ (by omega) (by omega)) ?_)
          unfold left
          by_cases h2 : ((siz l[i] + (sizs (l.drop (i + 1)) - (l.drop (i + 1)).length) : Nat) : Int) ≤ b
          · rw [if_pos (by omega), if_pos h2]; omega
          · rw [if_neg (by omega), if_neg h2]
        · have e : left (siz l[i]) b = -1 := by rw [left, if_neg hs]
          rw [e]
          refine Ev.if_pos (by omega) (Ev.val ?_)
          rw [left, if_neg (by omega)]
    refine Ev.to (key 0 (by omega) _ (by omega) (by omega)) ?_
    rw [List.drop_zero]
    unfold left
    by_cases h2 : ((sizs l : Nat) : Int) ≤ a
    · rw [if_pos (by omega), if_pos h2]; omega
    · rw [if_neg (by omega), if_neg h2]
  · rw [wrap_id (by omega) (by omega)]
    refine Ev.if_pos (by omega) (Ev.val ?_)
    rw [left, if_neg (by omega)]
theorem sz_ev : ∀ x : LC, fit x → ∀ a : Int, 0 ≤ a → a ≤ 1048576 → Ev (fun k => laws_szCond.f k x.f0 x.f1 x.f2 x.f3 a) (left (siz x) a) := by
  refine ind ?_
  intro p q r l ih hf a h0 h1
  rw [fit, fits_iff] at hf
  refine Ev.shift ?_
  simp only [laws_szCond.f]
  refine Ev.bind (szs_of l hf.1 a h0 h1 (fun y hy => ih y hy (hf.2 y hy))) ?_
  have e : siz ⟨p, q, r, l⟩ = sizs l := by rw [siz]
  rw [e]
  by_cases h2 : left (sizs l) a < 0
  · exact Ev.if_pos h2 (Ev.val (by unfold left at h2 ⊢; split at h2 <;> split <;> omega))
  · exact Ev.if_neg h2 (Ev.now _)
theorem tos_of (l : List LC) (hl : l.length ≤ 1048576) (ih : ∀ y ∈ l, Ev (fun k => laws_toCond.f k y.f0 y.f1 y.f2 y.f3) (y.f0, y.f1, y.f2, (cv y).f3)) : Ev (fun k => laws_toCondS.f k l) (l.map cv) := by
  refine Ev.shift ?_
  simp only [laws_toCondS.f]
  refine Ev.if_pos (by omega) (Ev.if_pos (by omega) ?_)
  have key : ∀ i, i ≤ l.length → Ev (fun k => laws_toCondS.l0 k l ((l.take i).map cv ++ List.replicate (l.length - i) z109) (i : Int)) (l.map cv) := by
    refine down ?_ ?_
    · refine Ev.shift ?_
      simp only [laws_toCondS.l0]
      exact Ev.if_neg (by omega) (Ev.val (fill_done _ _ _))
    · intro i hi ihd
      refine Ev.shift ?_
      simp only [laws_toCondS.l0]
      refine Ev.if_pos (by omega) (Ev.if_pos (by omega) ?_)
      rw [rdC l hi]
      refine Ev.bind (ih _ (List.getElem_mem hi)) ?_
      refine Ev.if_pos (by rw [fill_length _ _ _ (by omega)]; omega) ?_
      rw [wrap_succ (by omega), Int.toNat_natCast]
      have h2 := fill_set cv z109 l hi
      have e : cv l[i] = ⟨l[i].f0, l[i].f1, l[i].f2, (cv l[i]).f3⟩ := by cases l[i]; simp only [cv]
      rw [e] at h2
      rw [h2]
      exact ihd
  have h0 := key 0 (by omega)
  rw [fill_none] at h0
  rw [Int.toNat_natCast]
  exact h0
theorem to_ev : ∀ x : LC, siz x ≤ 1048576 → Ev (fun k => laws_toCond.f k x.f0 x.f1 x.f2 x.f3) (x.f0, x.f1, x.f2, (cv x).f3) := by
  refine ind ?_
  intro p q r l ih hs
  rw [siz] at hs
  refine Ev.shift ?_
  simp only [laws_toCond.f]
  have hg := sizs_ge l
  refine Ev.bind (tos_of l (by omega) (fun y hy => ih y hy ?_)) ?_
  · have : ∀ l : List LC, y ∈ l → siz y ≤ sizs l := by
      intro l hy
      induction l with
      | nil => cases hy
      | cons z l ihl =>
        rw [sizs]
        cases hy with
        | head => omega
        | tail _ h => have := ihl h; omega
    have := this l hy
    omega
  · rw [cv, cvs_map]
    exact Ev.now _
theorem eqs_of (l : List IC) (hl : l.length ≤ 1048576) (ih : ∀ y ∈ l, Ev (fun k => laws_eqCond.f k y.f0 y.f1 y.f2 y.f3 y.f0 y.f1 y.f2 y.f3) true) : Ev (fun k => laws_eqCondS.f k l l) true := by
  refine Ev.shift ?_
  simp only [laws_eqCondS.f]
  refine Ev.if_pos (by trivial) ?_
  have key : ∀ i, i ≤ l.length → Ev (fun k => laws_eqCondS.l0 k l l (i : Int)) true := by
    refine down ?_ ?_
    · refine Ev.shift ?_
      simp only [laws_eqCondS.l0]
      exact Ev.if_neg (by omega) (Ev.now _)
    · intro i hi ihd
      refine Ev.shift ?_
      simp only [laws_eqCondS.l0]
      refine Ev.if_pos (by omega) (Ev.if_pos (by omega) (Ev.if_pos (by omega) ?_))
      rw [rdI l hi, wrap_succ (by omega)]
      exact Ev.bind (ih _ (List.getElem_mem hi)) (Ev.if_pos rfl ihd)
  exact key 0 (by omega)
mutual
def isiz : IC → Nat
  | ⟨_, _, _, l⟩ => isizs l
def isizs : List IC → Nat
  | [] => 0
  | x :: xs => 1 + isiz x + isizs xs
end
theorem isizs_ge : ∀ l : List IC, l.length ≤ isizs l
  | [] => Nat.le_refl _
  | x :: xs => by have := isizs_ge xs; rw [isizs, List.length_cons]; omega
theorem mem_isiz {y : IC} : ∀ {l : List IC}, y ∈ l → isiz y ≤ isizs l
  | z :: l, h => by
    rw [isizs]
    cases h with
    | head => omega
    | tail _ h => have := mem_isiz h; omega
mutual
theorem isiz_cv : ∀ x : LC, isiz (cv x) = siz x
  | ⟨a, b, c, l⟩ => by rw [cv, isiz, siz, isizs_cv l]
theorem isizs_cv : ∀ l : List LC, isizs (cvs l) = sizs l
  | [] => by rw [cvs, isizs, sizs]
  | x :: xs => by rw [cvs, isizs, sizs, isiz_cv x, isizs_cv xs]
end
theorem eq_ev : ∀ x : IC, isiz x ≤ 1048576 → Ev (fun k => laws_eqCond.f k x.f0 x.f1 x.f2 x.f3 x.f0 x.f1 x.f2 x.f3) true := by
  refine Trees.tree_ind ?_
  intro p q r l ih hs
  rw [isiz] at hs
  refine Ev.shift ?_
  simp only [laws_eqCond.f]
  have hg := isizs_ge l
  refine Ev.if_pos (by trivial) (Ev.if_pos (by trivial) (Ev.if_pos (by trivial) ?_))
  exact Ev.bind (eqs_of l (by omega) (fun y hy => ih y hy (by have := mem_isiz hy; omega))) (Ev.if_pos rfl (Ev.now _))
end Go.Proofs.Ytbfochojhmggfaa.PTree
end
section
namespace Go.Proofs.Ytbfochojhmggfaa.Sets
open Go.Sort
theorem get_mono {l : List Int} (h : l.Pairwise (· ≤ ·)) {i j : Nat} (hij : i ≤ j) (hj : j < l.length) : l[i] ≤ l[j] := by
  rcases Nat.lt_or_eq_of_le hij with hlt | rfl
  · exact List.pairwise_iff_getElem.1 h i j (by omega) hj hlt
  · exact Int.le_refl _
theorem arr_get (l : List Int) {i : Nat} (h : i < l.length) : l.toArray[i]! = l[i] := by simp [h]
theorem compact_mem (l : List Int) (x : Int) : x ∈ Lib.compact l ↔ x ∈ l := by
  unfold Lib.compact Lib.compactUpTo
  simp only [List.mem_map, List.mem_filter, List.mem_range]
  constructor
  · rintro ⟨j, ⟨hj, _⟩, rfl⟩
    rw [arr_get l hj]
    exact List.getElem_mem hj
  · intro hx
    obtain ⟨j, hj, rfl⟩ := List.getElem_of_mem hx
    induction j using Nat.strongRecOn with
    | _ j ih =>
      by_cases hk : Lib.keeps l.toArray j = true
      · exact ⟨j, ⟨hj, hk⟩, arr_get l hj⟩
      · unfold Lib.keeps at hk
        simp only [decide_eq_true_eq, not_or, Classical.not_not] at hk
        rw [arr_get l hj, arr_get l (show j - 1 < l.length by omega)] at hk
        obtain ⟨z, hz, he⟩ := ih (j - 1) (by omega) (by omega) (List.getElem_mem _)
        exact ⟨z, hz, he.trans hk.2.symm⟩
theorem compact_asc {l : List Int} (h : l.Pairwise (· ≤ ·)) : (Lib.compact l).Pairwise (· < ·) := by
  unfold Lib.compact Lib.compactUpTo
  rw [List.pairwise_map]
  have h1 : ((List.range l.length).filter (Lib.keeps l.toArray)).Pairwise (fun i j => i < j ∧ j < l.length ∧ Lib.keeps l.toArray j = true) := by
    have h2 : ((List.range l.length).filter (Lib.keeps l.toArray)).Pairwise (· < ·) := List.Pairwise.filter _ List.pairwise_lt_range
    refine List.Pairwise.imp_of_mem ?_ h2
    intro i j _ hj hij
    rw [List.mem_filter, List.mem_range] at hj
    exact ⟨hij, hj.1, hj.2⟩
  refine h1.imp ?_
  rintro i j ⟨hij, hj, hk⟩
  unfold Lib.keeps at hk
  simp only [decide_eq_true_eq] at hk
  rw [arr_get l hj, arr_get l (show j - 1 < l.length by omega)] at hk
  rw [arr_get l hj, arr_get l (show i < l.length by omega)]
  have h3 := get_mono h (show i ≤ j - 1 by omega) (by omega)
  have h4 := get_mono h (show j - 1 ≤ j by omega) hj
  rcases hk with hk | hk
  · omega
  · omega
theorem sorted_pairwise (l : List Int) : (Sorts.sorted l).Pairwise (· ≤ ·) := by
  have := List.pairwise_mergeSort (le := fun x y : Int => decide (x ≤ y)) (fun a b c h1 h2 => by simp at *; omega) (fun a b => by simp; omega) l
  exact this.imp (fun h => by simpa using h)
theorem sorted_mem (l : List Int) (x : Int) : x ∈ Sorts.sorted l ↔ x ∈ l := List.mem_mergeSort
theorem both_mem (l : List Int) (x : Int) : x ∈ Lib.compact (Sorts.sorted l) ↔ x ∈ l := (compact_mem _ _).trans (sorted_mem l x)
theorem both_asc (l : List Int) : (Lib.compact (Sorts.sorted l)).Pairwise (· < ·) := compact_asc (sorted_pairwise l)
theorem asc_unique : ∀ (xs ys : List Int), xs.Pairwise (· < ·) → ys.Pairwise (· < ·) → (∀ x, x ∈ xs ↔ x ∈ ys) → xs = ys
  | [], [], _, _, _ => rfl
  | [], y :: ys, _, _, h => by have := (h y).2 List.mem_cons_self; cases this
  | x :: xs, [], _, _, h => by have := (h x).1 List.mem_cons_self; cases this
  | x :: xs, y :: ys, hx, hy, h => by
    rw [List.pairwise_cons] at hx hy
    have e : x = y := by
      rcases List.mem_cons.1 ((h x).1 List.mem_cons_self) with e | hm
      · exact e
      · rcases List.mem_cons.1 ((h y).2 List.mem_cons_self) with e | hm'
        · exact e.symm
        · have := hy.1 x hm
          have := hx.1 y hm'
          omega
    subst e
    congr 1
    refine asc_unique xs ys hx.2 hy.2 fun z => ⟨fun hz => ?_, fun hz => ?_⟩
    · rcases List.mem_cons.1 ((h z).1 (List.mem_cons_of_mem _ hz)) with e | hm
      · have := hx.1 z hz
        omega
      · exact hm
    · rcases List.mem_cons.1 ((h z).2 (List.mem_cons_of_mem _ hz)) with e | hm
      · have := hy.1 z hz
        omega
      · exact hm
theorem both_eq (l ys : List Int) (hy : ys.Pairwise (· < ·)) (h : ∀ x, x ∈ l ↔ x ∈ ys) : Lib.compact (Sorts.sorted l) = ys := asc_unique _ _ (both_asc l) hy (fun x => (both_mem l x).trans (h x))
theorem range_asc (j m : Nat) (p : Nat → Bool) : (((List.range' j m).filter p).map Int.ofNat).Pairwise (· < ·) := by
  rw [List.pairwise_map]
  refine List.Pairwise.filter _ ?_
  refine List.Pairwise.imp ?_ (List.pairwise_lt_range' (s := j) (n := m) (step := 1))
  intro a b h
  simpa using h
end Go.Proofs.Ytbfochojhmggfaa.Sets
end
