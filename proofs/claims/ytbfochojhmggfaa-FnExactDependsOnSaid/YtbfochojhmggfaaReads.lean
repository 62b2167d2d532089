/- From a datum that is read (DataW.trod) to the kinds of the printed texts (Kd): one lemma a shape. -/
import Derived.Test.YtbfochojhmggfaaWWords
import Derived.Test.YtbfochojhmggfaaProg
import Derived.ChangeArms
import Derived.Deep.Slices
import Derived.DataReads
namespace Go.Proofs.Ytbfochojhmggfaa.Reads
open Go.RowKit Go.Proofs.YtbfochojhmggfaaW.PrintWords

section
variable {H : Type} {enc : TypeId × Value → H} {P : Program} {w : World}

/-- Whatever is read of type t with at most n steps down is a value of the kind d. -/
def Rd (enc : TypeId × Value → H) (P : Program) (w : World) (n : Nat) (t : TypeId) {α : Type} (d : Kd α) : Prop :=
  ∀ fuel, fuel ≤ n → ∀ cs x, DataW.trod enc P w 0 (fun _ => true) true fuel t cs = some x → ∃ v, d.K w v cs

theorem Rd.le {n m : Nat} {t : TypeId} {α : Type} {d : Kd α} (h : Rd enc P w n t d) (hm : m ≤ n) : Rd enc P w m t d := fun fuel hf => h fuel (Nat.le_trans hf hm)

theorem rd_int {t : TypeId} {k : IntKind} (ht : P.underlying t = some (.int k)) (n : Nat) : Rd enc P w n t (Kd.int k) := by
  intro fuel _ cs x h
  obtain ⟨v, rfl, _⟩ := DataW.trod_int ht h
  exact ⟨v, rfl⟩

theorem choose_list {α : Type} (n : Nat) (Q : Nat → α → Prop) (h : ∀ i, i < n → ∃ v, Q i v) : ∃ xs : List α, xs.length = n ∧ ∀ i v, xs[i]? = some v → Q i v := by
  induction n with
  | zero => exact ⟨[], rfl, fun i v hv => by simp at hv⟩
  | succ n ih =>
    obtain ⟨xs, hl, hx⟩ := ih (fun i hi => h i (by omega))
    obtain ⟨v, hv⟩ := h n (by omega)
    refine ⟨xs ++ [v], by simp [hl], fun i u hu => ?_⟩
    rcases Nat.lt_or_ge i xs.length with hi | hi
    · rw [List.getElem?_append_left hi] at hu
      exact hx i u hu
    · have : i = xs.length := by
        have := (List.getElem?_eq_some_iff.1 hu).1
        rw [List.length_append, List.length_singleton] at this
        omega
      subst this
      have : v = u := by simpa using hu
      subst this
      rw [hl]
      exact hv

theorem rd_slice {t e : TypeId} {α : Type} {d : Kd α} (ht : P.underlying t = some (.slice e)) (hc : P.cellsOf e = d.sz) {n : Nat} (hd : Rd enc P w n e d) : Rd enc P w (n + 1) t (Kd.slice e d) := by
  intro fuel hf cs x h
  rcases DataW.trod_slice ht h with ⟨rfl, _⟩ | ⟨a, len, cap, elems, rest, m, rfl, rfl, _, hb, hl, hm, hlen, hel, _, _⟩
  · exact ⟨[], none, 0, rfl, Nat.le_refl _, rfl, by simp, fun hp => absurd hp (by simp)⟩
  · have key : ∀ i, i < len → ∃ v, ∃ c, w.cells? 0 (a.add (i * d.sz)) d.sz = some c ∧ d.K w v c := by
      intro i hi
      have h1 := hel i hi
      rw [List.getElem?_eq_getElem (by omega)] at h1
      obtain ⟨c, hcc, htr⟩ := Option.bind_eq_some_iff.1 h1
      obtain ⟨v, hv⟩ := hd m (by omega) c _ htr
      rw [hc] at hcc
      exact ⟨v, c, hcc, hv⟩
    obtain ⟨xs, hxl, hxs⟩ := choose_list len _ key
    refine ⟨xs, some a, cap, by rw [hxl], by omega, rfl, ?_, fun _ => ⟨a, rfl, fun j p hj => ?_⟩⟩
    · simp only [maxLen] at hm
      omega
    · obtain ⟨c, hcc, hv⟩ := hxs j p hj
      refine ⟨c, d.K_len hv, hv, fun i u hu => ?_⟩
      have h2 := (World.cells?_some hcc).2.2 i
      have hi : i < d.sz := by
        have := (List.getElem?_eq_some_iff.1 hu).1
        rw [d.K_len hv] at this
        exact this
      rw [← add_add]
      rw [h2 hi]
      exact hu

/-- The parts of a struct's cells. -/
theorem cut_one (cs : List Value) (o s : Nat) : cs.drop o = (cs.drop o).take s ++ cs.drop (o + s) := by rw [← List.drop_drop, List.take_append_drop]
theorem cut_last (cs : List Value) (o s : Nat) (h : cs.length = o + s) : (cs.drop o).take s = cs.drop o := List.take_of_length_le (by rw [List.length_drop]; omega)

theorem rd_field {n : Nat} {t : TypeId} {fs : Array Field} (ht : P.underlying t = some (.struct fs)) {fuel : Nat} (hf : fuel ≤ n + 1) {cs : List Value} {x : DataW H × List MemPlace}
    (h : DataW.trod enc P w 0 (fun _ => true) true fuel t cs = some x) :
    cs.length = P.cellsOf t ∧ ∀ (i : Nat) (f : Field), fs[i]? = some f → ∀ {α : Type} {d : Kd α}, Rd enc P w n f.type d → P.cellsOf f.type = d.sz → ∃ v, d.K w v ((cs.drop f.offset).take d.sz) := by
  obtain ⟨xs, m, rfl, _, hl, hlen, hx⟩ := DataW.trod_struct ht h
  refine ⟨hl, fun i f hi α d hd hs => ?_⟩
  have h1 := hx i f hi
  have hi' : i < xs.length := by rw [hlen]; exact (Array.getElem?_eq_some_iff.1 hi).1
  rw [List.getElem?_eq_getElem hi', hs] at h1
  exact hd m (by omega) _ _ h1
end
end Go.Proofs.Ytbfochojhmggfaa.Reads
