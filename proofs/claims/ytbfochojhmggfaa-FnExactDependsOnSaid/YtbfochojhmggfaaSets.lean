/- A list that is sorted and compacted: strictly ascending, with the same members; such a list is unique. -/
import Derived.Test.YtbfochojhmggfaaSorts
namespace Go.Proofs.Ytbfochojhmggfaa.Sets
open Go.Sort

theorem get_mono {l : List Int} (h : l.Pairwise (· ≤ ·)) {i j : Nat} (hij : i ≤ j) (hj : j < l.length) : l[i] ≤ l[j] := by
  rcases Nat.lt_or_eq_of_le hij with hlt | rfl
  · exact List.pairwise_iff_getElem.1 h i j (by omega) hj hlt
  · exact Int.le_refl _
theorem arr_get (l : List Int) {i : Nat} (h : i < l.length) : l.toArray[i]! = l[i] := by simp [h]

theorem compact_mem (l : List Int) (x : Int) : x ∈ Lib.compact l ↔ x ∈ l := by
  unfold Lib.compact Lib.compactUpTo
  simp only [List.mem_map, List.mem_filter, List.mem_range]
  constructor
  · rintro ⟨j, ⟨hj, _⟩, rfl⟩
    rw [arr_get l hj]
    exact List.getElem_mem hj
  · intro hx
    obtain ⟨j, hj, rfl⟩ := List.getElem_of_mem hx
    induction j using Nat.strongRecOn with
    | _ j ih =>
      by_cases hk : Lib.keeps l.toArray j = true
      · exact ⟨j, ⟨hj, hk⟩, arr_get l hj⟩
      · unfold Lib.keeps at hk
        simp only [decide_eq_true_eq, not_or, Classical.not_not] at hk
        rw [arr_get l hj, arr_get l (show j - 1 < l.length by omega)] at hk
        obtain ⟨z, hz, he⟩ := ih (j - 1) (by omega) (by omega) (List.getElem_mem _)
        exact ⟨z, hz, he.trans hk.2.symm⟩

theorem compact_asc {l : List Int} (h : l.Pairwise (· ≤ ·)) : (Lib.compact l).Pairwise (· < ·) := by
  unfold Lib.compact Lib.compactUpTo
  rw [List.pairwise_map]
  have h1 : ((List.range l.length).filter (Lib.keeps l.toArray)).Pairwise (fun i j => i < j ∧ j < l.length ∧ Lib.keeps l.toArray j = true) := by
    have h2 : ((List.range l.length).filter (Lib.keeps l.toArray)).Pairwise (· < ·) := List.Pairwise.filter _ List.pairwise_lt_range
    refine List.Pairwise.imp_of_mem ?_ h2
    intro i j _ hj hij
    rw [List.mem_filter, List.mem_range] at hj
    exact ⟨hij, hj.1, hj.2⟩
  refine h1.imp ?_
  rintro i j ⟨hij, hj, hk⟩
  unfold Lib.keeps at hk
  simp only [decide_eq_true_eq] at hk
  rw [arr_get l hj, arr_get l (show j - 1 < l.length by omega)] at hk
  rw [arr_get l hj, arr_get l (show i < l.length by omega)]
  have h3 := get_mono h (show i ≤ j - 1 by omega) (by omega)
  have h4 := get_mono h (show j - 1 ≤ j by omega) hj
  rcases hk with hk | hk
  · omega
  · omega

theorem sorted_pairwise (l : List Int) : (Sorts.sorted l).Pairwise (· ≤ ·) := by
  have := List.pairwise_mergeSort (le := fun x y : Int => decide (x ≤ y)) (fun a b c h1 h2 => by simp at *; omega) (fun a b => by simp; omega) l
  exact this.imp (fun h => by simpa using h)
theorem sorted_mem (l : List Int) (x : Int) : x ∈ Sorts.sorted l ↔ x ∈ l := List.mem_mergeSort

theorem both_mem (l : List Int) (x : Int) : x ∈ Lib.compact (Sorts.sorted l) ↔ x ∈ l := (compact_mem _ _).trans (sorted_mem l x)
theorem both_asc (l : List Int) : (Lib.compact (Sorts.sorted l)).Pairwise (· < ·) := compact_asc (sorted_pairwise l)

/-- Two strictly ascending lists of the same members are equal. -/
theorem asc_unique : ∀ (xs ys : List Int), xs.Pairwise (· < ·) → ys.Pairwise (· < ·) → (∀ x, x ∈ xs ↔ x ∈ ys) → xs = ys
  | [], [], _, _, _ => rfl
  | [], y :: ys, _, _, h => by have := (h y).2 List.mem_cons_self; cases this
  | x :: xs, [], _, _, h => by have := (h x).1 List.mem_cons_self; cases this
  | x :: xs, y :: ys, hx, hy, h => by
    rw [List.pairwise_cons] at hx hy
    have e : x = y := by
      rcases List.mem_cons.1 ((h x).1 List.mem_cons_self) with e | hm
      · exact e
      · rcases List.mem_cons.1 ((h y).2 List.mem_cons_self) with e | hm'
        · exact e.symm
        · have := hy.1 x hm
          have := hx.1 y hm'
          omega
    subst e
    congr 1
    refine asc_unique xs ys hx.2 hy.2 fun z => ⟨fun hz => ?_, fun hz => ?_⟩
    · rcases List.mem_cons.1 ((h z).1 (List.mem_cons_of_mem _ hz)) with e | hm
      · have := hx.1 z hz
        omega
      · exact hm
    · rcases List.mem_cons.1 ((h z).2 (List.mem_cons_of_mem _ hz)) with e | hm
      · have := hy.1 z hz
        omega
      · exact hm
/-- What is sorted and compacted is any strictly ascending list with its members. -/
theorem both_eq (l ys : List Int) (hy : ys.Pairwise (· < ·)) (h : ∀ x, x ∈ l ↔ x ∈ ys) : Lib.compact (Sorts.sorted l) = ys := asc_unique _ _ (both_asc l) hy (fun x => (both_mem l x).trans (h x))
theorem range_asc (j m : Nat) (p : Nat → Bool) : (((List.range' j m).filter p).map Int.ofNat).Pairwise (· < ·) := by
  rw [List.pairwise_map]
  refine List.Pairwise.filter _ ?_
  refine List.Pairwise.imp ?_ (List.pairwise_lt_range' (s := j) (n := m) (step := 1))
  intro a b h
  simpa using h
end Go.Proofs.Ytbfochojhmggfaa.Sets
