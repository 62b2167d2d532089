/- What the printed functions of FnExactDependsOn come to. -/
import Derived.Test.YtbfochojhmggfaaQ6
import Derived.Test.YtbfochojhmggfaaBase
import Derived.Test.YtbfochojhmggfaaSets
namespace Go.Proofs.Ytbfochojhmggfaa.PDepends
open Go.RowKit Go.Proofs.Ytbfochojhmggfaa.Q Go.Proofs.YtbfochojhmggfaaW.PrintWords Go.Proofs.Ytbfochojhmggfaa.Base

def cv (x : S205) : S130 := ⟨x.f0, x.f1, x.f2⟩
theorem rdL (xs : List S205) {i : Nat} (h : i < xs.length) : rd_T205 xs (i : Int) = xs[i] := getD_at xs _ h
theorem rdI (xs : List S130) {i : Nat} (h : i < xs.length) : rd_T130 xs (i : Int) = xs[i] := getD_at xs _ h

theorem toChoiceS_ev (l : List S205) (hl : l.length ≤ 1048576) : Ev (fun k => laws_toChoiceS.f k l) (l.map cv) := by
  have key : ∀ i, i ≤ l.length → Ev (fun k => laws_toChoiceS.l0 k l ((l.take i).map cv ++ List.replicate (l.length - i) z130) (i : Int)) (l.map cv) := by
    refine down ?_ ?_
    · refine Ev.shift ?_
      simp only [laws_toChoiceS.l0]
      exact Ev.if_neg (by omega) (Ev.val (fill_done _ _ _))
    · intro i hi ih
      refine Ev.shift ?_
      simp only [laws_toChoiceS.l0, laws_toChoice.f, Option.bind_some]
      refine Ev.if_pos (by omega) (Ev.if_pos (by omega) (Ev.if_pos (by rw [fill_length _ _ _ (by omega)]; omega) ?_))
      rw [wrap_succ (by omega), rdL l hi, Int.toNat_natCast]
      have := fill_set cv z130 l hi
      simp only [cv] at this ⊢
      rw [this]
      exact ih
  have h0 := key 0 (by omega)
  rw [fill_none] at h0
  simp only [laws_toChoiceS.f]
  refine Ev.if_pos (by omega) (Ev.if_pos (by omega) ?_)
  rw [Int.toNat_natCast]
  exact h0

theorem toDiagram_ev (a b : Int) (l : List S205) (hl : l.length ≤ 1048576) : Ev (fun k => laws_toDiagram.f k a l b) (a, l.map cv, b) := by
  simp only [laws_toDiagram.f]
  exact Ev.bind (toChoiceS_ev l hl) (Ev.now _)

def has (l : List S130) (n : Nat) : Bool := l.any fun x => x.f0 == (n : Int)
def D (l : List S130) (j : Nat) : List Int := ((List.range' j (6 - j)).filter (has l)).map Int.ofNat
theorem D_step (l : List S130) {j : Nat} (h : j < 6) : D l j = (if has l j then [(j : Int)] else []) ++ D l (j + 1) := by
  unfold D
  rw [show 6 - j = (6 - (j + 1)) + 1 by omega, List.range'_succ, List.filter_cons]
  split <;> simp

theorem spec_l1 (a b : Int) (l : List S130) (hl : l.length ≤ 1048576) (acc r1 r2 : List Int) (j : Nat) (hacc : acc.length ≤ j) (hj : j < 6)
    (h1 : Ev (fun k => spec_DependsOn.l0 k (acc ++ [(j : Int)]) ((j + 1 : Nat) : Int) a l b) r1) (h2 : Ev (fun k => spec_DependsOn.l0 k acc ((j + 1 : Nat) : Int) a l b) r2) :
    ∀ i, i ≤ l.length → Ev (fun k => spec_DependsOn.l1 k acc (j : Int) (i : Int) a l b) (if (l.drop i).any (fun x => x.f0 == (j : Int)) then r1 else r2) := by
  refine down ?_ ?_
  · refine Ev.shift ?_
    simp only [spec_DependsOn.l1]
    refine Ev.if_neg (by omega) ?_
    rw [wrap_succ (by omega), List.drop_length]
    exact h2
  · intro i hi ih
    refine Ev.shift ?_
    simp only [spec_DependsOn.l1]
    refine Ev.if_pos (by omega) (Ev.if_pos (by omega) ?_)
    rw [rdI l hi, List.drop_eq_getElem_cons hi, List.any_cons]
    refine Ev.ite (fun hc => ?_) (fun hc => ?_)
    · refine Ev.if_pos (by omega) ?_
      rw [wrap_succ (by omega)]
      simp only [hc, beq_self_eq_true, Bool.true_or, if_true]
      exact h1
    · rw [wrap_succ (by omega), show (l[i].f0 == (j : Int)) = false from beq_eq_false_iff_ne.2 hc, Bool.false_or]
      exact ih

theorem spec_ev (a b : Int) (l : List S130) (hl : l.length ≤ 1048576) : Ev (fun k => spec_DependsOn.f k a l b) (D l 0) := by
  have key : ∀ j, j ≤ 6 → ∀ acc : List Int, acc.length ≤ j → Ev (fun k => spec_DependsOn.l0 k acc (j : Int) a l b) (acc ++ D l j) := by
    refine down ?_ ?_
    · intro acc _
      refine Ev.shift ?_
      simp only [spec_DependsOn.l0]
      exact Ev.if_neg (by omega) (Ev.val (by simp [D]))
    · intro j hj ih acc hacc
      refine Ev.shift ?_
      simp only [spec_DependsOn.l0]
      refine Ev.if_pos (by omega) ?_
      have h1 := ih (acc ++ [(j : Int)]) (by simp; omega)
      have h2 := ih acc (by omega)
      have h3 := spec_l1 a b l hl acc _ _ j hacc hj h1 h2 0 (by omega)
      refine Ev.to h3 ?_
      rw [D_step l hj]
      show (if has l j then _ else _) = _
      cases has l j <;> simp
  simp only [spec_DependsOn.f]
  exact key 0 (by omega) [] (by simp)

def inr (x : Int) : Bool := decide (0 ≤ x ∧ x ≤ 5)
theorem inRange_eq (x : Int) : impl_InRange.f x 0 5 = some (inr x) := by
  unfold impl_InRange.f inr
  split <;> simp [*]
def vals (l : List S130) : List Int := (l.map (·.f0)).filter inr
theorem impl_ev (a b : Int) (l : List S130) (hl : l.length ≤ 1048576) : Ev (fun k => impl_DependsOn.f k a l b) (Lib.compact (Sorts.sorted (vals l))) := by
  have key : ∀ i, i ≤ l.length → ∀ acc : List Int, acc.length ≤ i → Ev (fun k => impl_DependsOn.l0 k acc l (l.length : Int) (i : Int)) (Lib.compact (Sorts.sorted (acc ++ vals (l.drop i)))) := by
    refine down ?_ ?_
    · intro acc hacc
      refine Ev.shift ?_
      simp only [impl_DependsOn.l0]
      refine Ev.if_neg (by omega) ?_
      simp only [slices_Sort_int_int.f, slices_Compact_int_int.f]
      rw [if_pos (by omega)]
      simp only [Option.bind_some]
      exact Ev.val (by simp [vals])
    · intro i hi ih acc hacc
      refine Ev.shift ?_
      simp only [impl_DependsOn.l0, inRange_eq, Option.bind_some]
      refine Ev.if_pos (by omega) (Ev.if_pos (by omega) (Ev.if_pos (by omega) ?_))
      rw [wrap_succ (by omega), rdI l hi]
      have hv : vals (l.drop i) = (if inr l[i].f0 then [l[i].f0] else []) ++ vals (l.drop (i + 1)) := by
        rw [List.drop_eq_getElem_cons hi]
        unfold vals
        rw [List.map_cons, List.filter_cons]
        split <;> simp
      rw [hv]
      refine Ev.ite (fun hc => ?_) (fun hc => ?_)
      · refine Ev.if_pos (by omega) ?_
        rw [if_pos hc, ← List.append_assoc]
        exact ih _ (by simp; omega)
      · rw [if_neg hc, List.nil_append]
        exact ih _ (by omega)
  simp only [impl_DependsOn.f]
  exact key 0 (by omega) [] (by simp)

theorem same (l : List S130) : Lib.compact (Sorts.sorted (vals l)) = D l 0 := by
  refine Sets.both_eq _ _ (Sets.range_asc _ _ _) fun x => ?_
  unfold vals D
  simp only [List.mem_filter, List.mem_map, List.mem_range'_1, inr, decide_eq_true_eq, has, List.any_eq_true, beq_iff_eq]
  constructor
  · rintro ⟨⟨y, hy, rfl⟩, h0, h5⟩
    obtain ⟨n, hn⟩ := Int.eq_ofNat_of_zero_le h0
    exact ⟨n, ⟨by omega, y, hy, hn⟩, hn.symm⟩
  · rintro ⟨n, ⟨h6, y, hy, he⟩, rfl⟩
    exact ⟨⟨y, hy, he⟩, by simp; omega⟩
theorem D_length (l : List S130) : (D l 0).length ≤ 6 := by
  unfold D
  rw [List.length_map]
  exact Nat.le_trans (List.length_filter_le _ _) (by simp)

theorem eqIntS_ev (l : List Int) (hl : l.length ≤ 1048576) : Ev (fun k => laws_eqIntS.f k l l) true := by
  have key : ∀ i, i ≤ l.length → Ev (fun k => laws_eqIntS.l0 k l l (i : Int)) true := by
    refine down ?_ ?_
    · refine Ev.shift ?_
      simp only [laws_eqIntS.l0]
      exact Ev.if_neg (by omega) (Ev.now _)
    · intro i hi ih
      refine Ev.shift ?_
      simp only [laws_eqIntS.l0]
      refine Ev.if_pos (by omega) (Ev.if_pos (by omega) (Ev.if_pos (by omega) (Ev.if_pos (by trivial) ?_)))
      rw [wrap_succ (by omega)]
      exact ih
  simp only [laws_eqIntS.f]
  exact Ev.if_pos (by trivial) (key 0 (by omega))
theorem eqChoiceS_ev (l : List S130) (hl : l.length ≤ 1048576) : Ev (fun k => laws_eqChoiceS.f k l l) true := by
  have key : ∀ i, i ≤ l.length → Ev (fun k => laws_eqChoiceS.l0 k l l (i : Int)) true := by
    refine down ?_ ?_
    · refine Ev.shift ?_
      simp only [laws_eqChoiceS.l0]
      exact Ev.if_neg (by omega) (Ev.now _)
    · intro i hi ih
      refine Ev.shift ?_
      simp only [laws_eqChoiceS.l0, laws_eqChoice.f, if_true, Option.bind_some]
      refine Ev.if_pos (by omega) (Ev.if_pos (by omega) (Ev.if_pos (by omega) ?_))
      rw [wrap_succ (by omega)]
      exact ih
  simp only [laws_eqChoiceS.f]
  exact Ev.if_pos (by trivial) (key 0 (by omega))
theorem eqDiagram_ev (a b : Int) (l : List S130) (hl : l.length ≤ 1048576) : Ev (fun k => laws_eqDiagram.f k a l b a l b) true := by
  simp only [laws_eqDiagram.f, if_true]
  exact Ev.bind (eqChoiceS_ev l hl) (Ev.now _)

theorem markChoiceS_ev (l : List S130) (hl : l.length ≤ 1048576) : ∃ l', Ev (fun k => laws_markChoiceS.f k l 1) (1 + 3 * (l.length : Int), l') := by
  have key : ∀ i, i ≤ l.length → ∀ x : List S130, x.length = l.length → ∃ l', Ev (fun k => laws_markChoiceS.l0 k x (1 + 3 * (i : Int)) (i : Int)) (1 + 3 * (l.length : Int), l') := by
    refine down ?_ ?_
    · intro x hx
      refine ⟨x, Ev.shift ?_⟩
      simp only [laws_markChoiceS.l0]
      exact Ev.if_neg (by omega) (Ev.now _)
    · intro i hi ih x hx
      apply Exists.intro
      refine Ev.shift ?_
      simp only [laws_markChoiceS.l0, Option.bind_some, Int.toNat_natCast]
      refine Ev.if_pos (by omega) (Ev.if_pos (by omega) ?_)
      rw [wrap_id (i := (i : Int) + 1) (by omega) (by omega), wrap_id (i := 1 + 3 * (i : Int) + 1) (by omega) (by omega), wrap_id (i := 1 + 3 * (i : Int) + 1 + 1) (by omega) (by omega), wrap_id (i := 1 + 3 * (i : Int) + 1 + 1 + 1) (by omega) (by omega),
        show 1 + 3 * (i : Int) + 1 + 1 + 1 = 1 + 3 * ((i + 1 : Nat) : Int) by omega, show (i : Int) + 1 = ((i + 1 : Nat) : Int) by omega]
      exact Classical.choose_spec (ih _ (by simp [hx]))
  exact key 0 (by omega) l rfl
theorem markDiagram_ev (a b : Int) (l : List S130) (hl : l.length ≤ 1048576) : ∃ l', Ev (fun k => laws_markDiagram.f k a l b 1) (1 + 3 * (l.length : Int), l') := by
  obtain ⟨l', h⟩ := markChoiceS_ev l hl
  refine ⟨l', ?_⟩
  simp only [laws_markDiagram.f]
  exact Ev.bind h (Ev.now _)

def marked (n : Nat) : List Int := (List.range n).map fun i : Nat => 1 + (i : Int)
theorem marked_length (n : Nat) : (marked n).length = n := by simp [marked]
theorem marked_get (n i : Nat) (h : i < (marked n).length) : (marked n)[i] = 1 + (i : Int) := by simp [marked]
theorem markIntS_ev (l : List Int) (hl : l.length ≤ 1048576) : Ev (fun k => laws_markIntS.f k l 1) (1 + (l.length : Int), marked l.length) := by
  have key : ∀ i, i ≤ l.length → Ev (fun k => laws_markIntS.l0 k ((marked l.length).take i ++ l.drop i) (1 + (i : Int)) (i : Int)) (1 + (l.length : Int), marked l.length) := by
    have hml := marked_length l.length
    refine down ?_ ?_
    · refine Ev.shift ?_
      simp only [laws_markIntS.l0]
      refine Ev.if_neg (by simp; omega) (Ev.val ?_)
      rw [List.drop_length, List.append_nil, List.take_of_length_le (by omega)]
    · intro i hi ih
      refine Ev.shift ?_
      simp only [laws_markIntS.l0, Int.toNat_natCast]
      refine Ev.if_pos (by simp; omega) (Ev.if_pos (by omega) ?_)
      rw [wrap_id (i := (i : Int) + 1) (by omega) (by omega), wrap_id (i := 1 + (i : Int) + 1) (by omega) (by omega), show 1 + (i : Int) + 1 = 1 + ((i + 1 : Nat) : Int) by omega, show (i : Int) + 1 = ((i + 1 : Nat) : Int) by omega]
      have e : ((marked l.length).take i ++ l.drop i).set i (1 + (i : Int)) = (marked l.length).take (i + 1) ++ l.drop (i + 1) := by
        rw [List.set_append_right _ _ (by simp; omega), List.length_take, Nat.min_eq_left (by omega), Nat.sub_self, List.drop_eq_getElem_cons hi, List.set_cons_zero, List.take_succ_eq_append_getElem (by omega), marked_get]
        simp
      rw [e]
      exact ih
  have := key 0 (by omega)
  simpa [laws_markIntS.f] using this
theorem heldIntS_ev (n : Nat) (hl : n ≤ 1048576) : Ev (fun k => laws_heldIntS.f k (marked n) 1) (1 + (n : Int)) := by
  have hml := marked_length n
  have key : ∀ i, i ≤ n → Ev (fun k => laws_heldIntS.l0 k (marked n) (1 + (i : Int)) (i : Int)) (1 + (n : Int)) := by
    refine down ?_ ?_
    · refine Ev.shift ?_
      simp only [laws_heldIntS.l0]
      exact Ev.if_neg (by omega) (Ev.now _)
    · intro i hi ih
      refine Ev.shift ?_
      simp only [laws_heldIntS.l0]
      refine Ev.if_pos (by omega) (Ev.if_pos (by omega) (Ev.if_pos (by rw [rd_at _ (show i < (marked n).length by omega), marked_get]) ?_))
      rw [wrap_id (i := (i : Int) + 1) (by omega) (by omega), wrap_id (i := 1 + (i : Int) + 1) (by omega) (by omega), show 1 + (i : Int) + 1 = 1 + ((i + 1 : Nat) : Int) by omega, show (i : Int) + 1 = ((i + 1 : Nat) : Int) by omega]
      exact ih
  exact key 0 (by omega)
theorem szDiagram_eq (a b : Int) (l : List S205) (h : l.length ≤ 9223372036854775807) : laws_szDiagram.f a l b 1048576 = some (if l.length ≤ 1048576 then 1048576 - (l.length : Int) else -1) := by
  unfold laws_szDiagram.f laws_szChoiceS.f
  rw [wrap_id (by omega) (by omega)]
  by_cases hl : l.length ≤ 1048576
  · rw [if_neg (by omega), Option.bind_some, if_neg (by omega), if_pos hl]
  · rw [if_pos (by omega), Option.bind_some, if_pos (by omega), if_neg hl]
end Go.Proofs.Ytbfochojhmggfaa.PDepends
