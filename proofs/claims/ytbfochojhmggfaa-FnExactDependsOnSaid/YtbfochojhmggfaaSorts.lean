/- slices.Sort and slices.Compact at []int, met by the shelf's contracts and told of a row of the call's own (Kd.R). -/
import Derived.Test.YtbfochojhmggfaaWKept
import Derived.Test.YtbfochojhmggfaaShelf
import Derived.Sort.OwnSortedInts
import Derived.Lib.OwnBridge
namespace Go.Proofs.Ytbfochojhmggfaa.Sorts
open Go.RowKit Go.Proofs.YtbfochojhmggfaaW.PrintWords Go.Sort

def sorted (l : List Int) : List Int := l.mergeSort fun x y => decide (x ≤ y)
theorem sorted_length (l : List Int) : (sorted l).length = l.length := by simp [sorted]

theorem inner_eq {R : Int → List Value → Prop} (hR : ∀ p c, R p c → c = [.int .i64 p]) : ∀ (ps : List Int) (cs : List Value), Reps R 1 ps cs → cs = ps.map (Value.int .i64) := by
  intro ps cs h
  apply List.ext_getElem?
  intro j
  rw [List.getElem?_map]
  by_cases hj : j < ps.length
  · have h2 := h.2 j ps[j] (List.getElem?_eq_getElem hj)
    have h3 := hR _ _ h2
    have h4 : ((cs.drop (j * 1)).take 1)[0]? = some (.int .i64 ps[j]) := by rw [h3]; rfl
    rw [List.getElem?_take, if_pos (by omega), List.getElem?_drop] at h4
    rw [List.getElem?_eq_getElem hj]
    simpa using h4
  · have : cs.length ≤ j := by rw [h.1]; omega
    rw [List.getElem?_eq_none this, List.getElem?_eq_none (by omega)]
    rfl

theorem own_of {e : Nat} {w : World} {base : Nat} {ok : Nat → Prop} {v : Value} {xs : List Int} (h : Kd.R (Kd.int .i64) e w base ok v xs) :
    (∀ k, v.ownBlock = some k → ok k) ∧ w.ownsRow base e 1 v xs.length (xs.map (Value.int .i64)) := by
  obtain ⟨h0, inner, ho, hr⟩ := h
  have ho' : w.ownsRow base e 1 v xs.length inner := ho
  have : inner = xs.map (Value.int .i64) := inner_eq (fun p c hp => hp) xs inner hr
  exact ⟨h0, this ▸ ho'⟩

theorem of_own {e : Nat} {w : World} {base : Nat} {ok : Nat → Prop} {v : Value} {xs : List Int} (h0 : ∀ k, v.ownBlock = some k → ok k) (ho : w.ownsRow base e 1 v xs.length (xs.map (Value.int .i64))) :
    Kd.R (Kd.int .i64) e w base ok v xs := by
  refine ⟨h0, xs.map (Value.int .i64), ho, by simp [Kd.int, Kd.scalar], fun j p hj => ?_⟩
  show ((xs.map (Value.int .i64)).drop (j * 1)).take 1 = [.int .i64 p]
  have hl := (List.getElem?_eq_some_iff.1 hj).1
  have he := (List.getElem?_eq_some_iff.1 hj).2
  rw [Nat.mul_one, List.drop_eq_getElem_cons (by simpa using hl)]
  simp [he]

theorem sort_calls (P : Nat → Prop) (u : Value) (l r : List Int) (w0 w : World) (hB : Below w0.heap.size w0 w) (ho : Kd.R (Kd.int .i64) 3 w w0.heap.size P u l)
    (h : (if l.length < 4611686018427387904 then some (sorted l) else none) = some r) :
    Calls Try.prog 86 #[u] w fun e w' => e = .returned (.tuple #[]) ∧ Kd.R (Kd.int .i64) 3 w' w0.heap.size (fun k_ => (P k_ ∨ w.heap.size ≤ k_)) u r ∧ Below w0.heap.size w0 w' ∧ Kept w w' (fun k_ => P k_) := by
  have hlt : l.length < 4611686018427387904 := by
    by_cases hl : l.length < 4611686018427387904
    · exact hl
    · rw [if_neg hl] at h; cases h
  rw [if_pos hlt] at h
  injection h with h
  subst h
  obtain ⟨h0, hown⟩ := own_of ho
  by_cases hv : u = .slice none 0 0
  · subst hv
    have hl : l = [] := by
      rcases hown.2 with ⟨_, hn⟩ | ⟨g, cap, cur, he, _⟩
      · exact List.eq_nil_of_length_eq_zero hn
      · cases he
    subst hl
    refine (Try.slices_Sort_int_none none 0 w).mono ?_
    rintro e w' ⟨rfl, rfl⟩
    exact ⟨rfl, (by rw [show sorted ([] : List Int) = [] from by simp [sorted]]; exact Kd.R_nil _ _ _ _ _), hB, Kept.refl _ _⟩
  · obtain ⟨g, cap, rfl, hb, hg, hn, hm, _, hH⟩ := Lib.holds_of_ownsRow hown hv
    refine (Try.slices_Sort_int g 0 cap l w hH hg hlt).mono ?_
    rintro e w' ⟨rfl, n, os, rfl⟩
    have hg' : w.grownBy (grow (putRow (Value.int .i64) (Sort.ahead w n) g 0 (sorted l).toArray) os) (some g) := grownBy_sortedI _
    have hPg : P g := h0 g (by simp [Value.ownBlock])
    refine ⟨rfl, ?_, ?_, ?_⟩
    · refine of_own (fun k hk => .inl (h0 k hk)) ?_
      rcases hown.2 with ⟨he, _⟩ | ⟨g2, cap2, cur, he, _, hh, h1, h2, h3, h4⟩
      · cases he
      · injection he with e1 _ e3
        injection e1 with e1
        injection e1 with e1
        subst e1; subst e3
        rw [sorted_length]
        exact ownsRow_sortedI (sorted_length l) hb hh h1 h2 h3
    · exact pw_below_grown hB (some g) (Nat.le_trans hb (Nat.le_of_lt hg)) hg' (fun k hk => by injection hk with hk; omega)
    · exact ⟨hg'.size, fun i hi hn => hg'.block i hi (fun he => hn (by injection he with he; subst he; exact hPg))⟩

theorem compact_calls (P : Nat → Prop) (u : Value) (l r : List Int) (w0 w : World) (hB : Below w0.heap.size w0 w) (ho : Kd.R (Kd.int .i64) 3 w w0.heap.size P u l)
    (h : some (Lib.compact l) = some r) :
    Calls Try.prog 87 #[u] w fun e w' => ∃ v0_ : Value, e = .returned (v0_) ∧ Kd.R (Kd.int .i64) 3 w' w0.heap.size (fun k_ => (P k_ ∨ w.heap.size ≤ k_)) v0_ r ∧ Below w0.heap.size w0 w' ∧ Kept w w' (fun k_ => P k_) := by
  injection h with h
  subst h
  obtain ⟨h0, hown⟩ := own_of ho
  by_cases hv : u = .slice none 0 0
  · subst hv
    have hl : l = [] := by
      rcases hown.2 with ⟨_, hn⟩ | ⟨g, cap, cur, he, _⟩
      · exact List.eq_nil_of_length_eq_zero hn
      · cases he
    subst hl
    refine (Try.slices_Compact_int_empty none 0 w).mono ?_
    rintro e w' ⟨rfl, rfl⟩
    exact ⟨_, rfl, Kd.R_nil _ _ _ _ _, hB, Kept.refl _ _⟩
  · obtain ⟨g, cap, rfl, hb, hg, hn, hm, _, hH⟩ := Lib.holds_of_ownsRow hown hv
    refine (Try.slices_Compact_int g 0 cap l w hH (by simp only [maxLen] at hm; omega) hn).mono ?_
    rintro e w' ⟨rfl, q, rfl⟩
    have hcl := Lib.compact_length_le l
    have hPg : P g := h0 g (by simp [Value.ownBlock])
    refine ⟨_, rfl, ?_, Lib.below_putRow hB hb, ?_⟩
    · refine of_own (fun k hk => .inl (h0 k (by simpa [Value.ownBlock] using hk))) ?_
      have := Lib.ownsRow_putRow (q := q) (k := (Lib.compact l).length) hown (ys := Lib.compact l ++ List.replicate (l.length - (Lib.compact l).length) 0) (by simp; omega) hcl
      rwa [List.take_left'] at this
      rfl
    · have hbw := grownBy_sortedI (w := w) (g := g) (n := q) (os := #[]) (Lib.compact l ++ List.replicate (l.length - (Lib.compact l).length) 0).toArray
      rw [grow_empty] at hbw
      exact ⟨hbw.size, fun i hi hn => hbw.block i hi (fun he => hn (by injection he with he; subst he; exact hPg))⟩
end Go.Proofs.Ytbfochojhmggfaa.Sorts
