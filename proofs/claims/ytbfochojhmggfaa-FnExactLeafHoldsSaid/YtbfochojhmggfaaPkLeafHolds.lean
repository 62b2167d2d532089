import Derived.Test.YtbfochojhmggfaaPkLeafHolds6
import Derived.ArgAppend
import Derived.Below
import Derived.BigQuiet
import Derived.ChangeArms
import Derived.ChangeOld
import Derived.DataReads
import Derived.Deep.AppendLies
import Derived.Deep.CutBlock
import Derived.Deep.DeepCutAuto
import Derived.Deep.Draws
import Derived.Deep.LoopGhost
import Derived.Deep.OwnRows
import Derived.Deep.QuietTactic
import Derived.Deep.RegionHeld3
import Derived.Deep.RegionWith
import Derived.Deep.Slices
import Derived.Ground.Names2Prog
import Derived.IntWalk
import Derived.KernelRfl
import Derived.Laws.BitsLemmas
import Derived.Laws.BytesArg
import Derived.Laws.IdiomCopy
import Derived.Laws.MakeOwn
import Derived.Laws.OwnMore
import Derived.Laws.Rows
import Derived.Laws.Slices
import Derived.Laws.StructEq
import Derived.Lib.AppendStr
import Derived.Lib.ConvBytes
import Derived.Lib.OwnBridge
import Derived.Maps.AppendAt
import Derived.OpenShut
import Derived.OrdersHeld
import Derived.OwnWalk
import Derived.ProofKit
import Derived.RowKit
import Derived.RowKit3
import Derived.Shelf.Abstract
import Derived.Shelf.Slices.Cells
import Derived.Shelf.Slices.CompactI
import Derived.Shelf.Slices.In.SortNone
import Derived.Shelf.Slices.SearchI
import Derived.Shelf.Slices.Turned
import Derived.Shelf.Small.Bits
import Derived.Shelf.Small.Wraps
import Derived.Shelf.Sort.Plain
import Derived.Shelf.Strconv.Itoa0
import Derived.ShutString
import Derived.SizedLaws
import Derived.Sort.OwnSortedInts
import Derived.Tactics
import Derived.Test.YtbfochojhmggfaaProg
import Derived.Test.YtbfochojhmggfaaRows
import Derived.WalkKit
import Derived.WideLaws
section
namespace Go.Proofs.Ytbfochojhmggfaa.PLeaf
open Go.RowKit Go.Proofs.Ytbfochojhmggfaa.R Go.Proofs.YtbfochojhmggfaaW.PrintWords Go.Proofs.Ytbfochojhmggfaa.Base Go.Proofs.Ytbfochojhmggfaa.Roles Go.Proofs.Ytbfochojhmggfaa.PFacts Go.Proofs.Ytbfochojhmggfaa.PRoles
set_option linter.unusedVariables false
set_option linter.unusedSimpArgs false
def hB (f : IF_) (now age : Int) : Bool := Facts.holdsB f.f0 f.f1 f.f2 f.f3 f.f4 f.f5 now age
def gives (p now age : Int) (f : IF_) : Bool := f.f0 == 1 && f.f1 == p && hB f now age
def all (l : List II) (p now age : Int) (s : List IF_) : List Int := (s.filter (gives p now age)).flatMap (fun f => under l f.f2)
def Lst (acc : List Int) : List Int := ((List.range' 0 6).filter (fun (r : Nat) => decide ((r : Int) ∈ acc))).map Int.ofNat
theorem under_in (l : List II) (r : Int) : ∀ b ∈ under l r, 0 ≤ b ∧ b ≤ 5 := by
  intro b hb
  unfold under at hb
  split at hb
  · simp only [List.mem_map, List.mem_filter, List.mem_range] at hb
    obtain ⟨n, ⟨hn, _⟩, rfl⟩ := hb
    omega
  · cases hb
theorem under_len (l : List II) (r : Int) : (under l r).length ≤ 6 := by
  unfold under
  split
  · rw [List.length_map]
    exact Nat.le_trans (List.length_filter_le _ _) (by simp)
  · simp
theorem all_in (l : List II) (p now age : Int) (s : List IF_) : ∀ b ∈ all l p now age s, 0 ≤ b ∧ b ≤ 5 := by
  intro b hb
  unfold all at hb
  rw [List.mem_flatMap] at hb
  obtain ⟨f, _, hf⟩ := hb
  exact under_in l _ b hf
theorem Lst_len (acc : List Int) : (Lst acc).length ≤ 6 := by
  unfold Lst
  rw [List.length_map]
  exact Nat.le_trans (List.length_filter_le _ _) (by simp)
theorem Lst_mem {acc : List Int} (h : ∀ b ∈ acc, 0 ≤ b ∧ b ≤ 5) (x : Int) : x ∈ acc ↔ x ∈ Lst acc := by
  unfold Lst
  simp only [List.mem_map, List.mem_filter, List.mem_range', decide_eq_true_eq]
  constructor
  · intro hx
    have := h x hx
    exact ⟨x.toNat, ⟨⟨x.toNat, by omega, by omega⟩, by rw [show ((x.toNat : Nat) : Int) = x by omega]; exact hx⟩, by show ((x.toNat : Nat) : Int) = x; omega⟩
  · rintro ⟨n, ⟨_, hn⟩, rfl⟩
    exact hn
theorem compact_Lst {acc : List Int} (h : ∀ b ∈ acc, 0 ≤ b ∧ b ≤ 5) : Lib.compact (Sorts.sorted acc) = Lst acc := Sets.both_eq _ _ (Sets.range_asc 0 6 _) (Lst_mem h)
theorem i_roles (l : List II) (s : List IF_) (p now age : Int) (hs : s.length ≤ 1048576) : ∀ i : Nat, i ≤ s.length → ∀ acc : List Int, acc.length ≤ 6 * i → (∀ b ∈ acc, 0 ≤ b ∧ b ≤ 5) →
    Ev (fun k => impl_RolesOf.l0 k l p now age acc s (s.length : Int) (i : Int)) (Lst (acc ++ all l p now age (s.drop i))) := by
  refine down ?_ ?_
  · intro acc ha hb
    refine Ev.shift ?_
    simp only [impl_RolesOf.l0]
    refine Ev.if_neg (by omega) ?_
    rw [List.drop_length]
    simp only [slices_Sort_int_int.f, slices_Compact_int_int.f]
    refine Ev.call (show (if acc.length < 4611686018427387904 then some (Sorts.sorted acc) else none) = some (Sorts.sorted acc) from if_pos (by omega)) (Ev.call rfl (Ev.val ?_))
    rw [compact_Lst hb]
    simp [all]
  · intro i hi ih acc ha hb
    refine Ev.shift ?_
    simp only [impl_RolesOf.l0]
    refine Ev.if_pos (by omega) (Ev.if_pos (by omega) (Ev.if_pos (by omega) ?_))
    rw [rdIF s hi, wrap_succ (by omega), List.drop_eq_getElem_cons hi]
    have no : gives p now age s[i] = false → Ev (fun k => impl_RolesOf.l0 k l p now age acc s (s.length : Int) ((i + 1 : Nat) : Int)) (Lst (acc ++ all l p now age (s[i] :: s.drop (i + 1)))) := by
      intro hg
      refine Ev.to (ih acc (by omega) hb) ?_
      simp only [all, List.filter_cons, hg]
      rfl
    by_cases h1 : s[i].f0 = 1
    · refine Ev.if_pos h1 ?_
      by_cases h2 : s[i].f1 = p
      · refine Ev.if_pos h2 (Ev.call (holdsAt_f _ _ _ _ _ _ _ _) ?_)
        by_cases h3 : hB s[i] now age = true
        · refine Ev.if_pos h3 (Ev.call (show impl_RolesUnder.f l s[i].f2 = some (under l s[i].f2) from rfl) ?_)
          have hu := under_len l s[i].f2
          refine Ev.if_pos (by omega) (Ev.to (ih (acc ++ under l s[i].f2) (by simp; omega) (fun b hb2 => (List.mem_append.1 hb2).elim (hb b) (under_in l _ b))) ?_)
          have hg : gives p now age s[i] = true := by simp [gives, h1, h2, h3]
          simp only [all, List.filter_cons, hg, if_true, List.flatMap_cons, List.append_assoc]
        · exact Ev.if_neg h3 (no (by simp [gives, h3]))
      · exact Ev.if_neg h2 (no (by simp [gives, h2]))
    · exact Ev.if_neg h1 (no (by simp [gives, h1]))
def rolesOf (l : List II) (s : List IF_) (p now age : Int) : List Int := Lst (all l p now age s)
theorem i_rolesOf (l : List II) (s : List IF_) (p now age : Int) (hs : s.length ≤ 1048576) : Ev (fun k => impl_RolesOf.f k l s p now age) (rolesOf l s p now age) := by
  simp only [impl_RolesOf.f]
  have := i_roles l s p now age hs 0 (by omega) [] (by simp) (by simp)
  simpa [rolesOf] using this
theorem i_has (l : List Int) (hl : l.length ≤ 1048576) (a : Int) : Ev (fun k => slices_Contains_int_int.f k l a) (decide (a ∈ l)) := by
  have key : ∀ i, i ≤ l.length → ∃ r, Ev (fun k => slices_Index_int_int.l0 k l a (l.length : Int) (i : Int)) r ∧ (0 ≤ r ↔ a ∈ l.drop i) := by
    refine down ?_ ?_
    · refine ⟨-1, Ev.shift ?_, by simp⟩
      simp only [slices_Index_int_int.l0]
      exact Ev.if_neg (by omega) (Ev.now _)
    · rintro i hi ⟨r, hr, hi2⟩
      by_cases h : a = l[i]
      · refine ⟨i, Ev.shift ?_, ⟨fun _ => by rw [List.drop_eq_getElem_cons hi, h]; exact List.mem_cons_self, fun _ => by omega⟩⟩
        simp only [slices_Index_int_int.l0]
        refine Ev.if_pos (by omega) (Ev.if_pos (by omega) (Ev.if_pos (by omega) ?_))
        rw [rd_at l hi]
        exact Ev.if_pos h (Ev.now _)
      · refine ⟨r, Ev.shift ?_, ?_⟩
        · simp only [slices_Index_int_int.l0]
          refine Ev.if_pos (by omega) (Ev.if_pos (by omega) (Ev.if_pos (by omega) ?_))
          rw [rd_at l hi, wrap_succ (by omega)]
          exact Ev.if_neg h hr
        · rw [hi2, List.drop_eq_getElem_cons hi, List.mem_cons]
          exact ⟨.inr, fun h2 => h2.resolve_left h⟩
  obtain ⟨r, hr, h2⟩ := key 0 (by omega)
  simp only [slices_Contains_int_int.f, slices_Index_int_int.f]
  refine Ev.bind hr (Ev.val ?_)
  rw [Bool.eq_iff_iff, decide_eq_true_eq, decide_eq_true_eq]
  simpa using h2
theorem s_has (l : List Int) (hl : l.length ≤ 1048576) (a : Int) : Ev (fun k => spec_l13Has.f k l a) (decide (a ∈ l)) := by
  have key : ∀ i, i ≤ l.length → Ev (fun k => spec_l13Has.l0 k l a (i : Int)) (decide (a ∈ l.drop i)) := by
    refine down ?_ ?_
    · refine Ev.shift ?_
      simp only [spec_l13Has.l0]
      exact Ev.if_neg (by omega) (Ev.val (by simp))
    · intro i hi ih
      refine Ev.shift ?_
      simp only [spec_l13Has.l0]
      refine Ev.if_pos (by omega) (Ev.if_pos (by omega) ?_)
      rw [rd_at l hi, wrap_succ (by omega), List.drop_eq_getElem_cons hi]
      refine Ev.ite (fun h => Ev.val (by simp [h])) (fun h => Ev.to ih ?_)
      rw [Bool.eq_iff_iff, decide_eq_true_eq, decide_eq_true_eq, List.mem_cons]
      exact ⟨.inr, fun h2 => h2.resolve_left (fun e => h e.symm)⟩
  exact key 0 (by omega)
def marks (m : List Bool) (u : List Int) : List Bool := u.foldl (fun m b => m.set b.toNat true) m
theorem marks_len : ∀ (u : List Int) {m : List Bool}, m.length = 6 → (marks m u).length = 6
  | [], _, h => h
  | b :: u, m, h => marks_len u (m := m.set b.toNat true) (by simpa using h)
theorem marks_in : ∀ (u : List Int) {m : List Bool}, m.length = 6 → (∀ b ∈ u, 0 ≤ b ∧ b ≤ 5) → ∀ b, inO (marks m u) b ↔ inO m b ∨ b ∈ u
  | [], m, h, hu, b => by simp [marks]
  | c :: u, m, h, hu, b => by
    have := marks_in u (m := m.set c.toNat true) (by simpa using h) (fun b hb => hu b (by simp [hb])) b
    rw [inO_set h (hu c (by simp))] at this
    show inO (marks (m.set c.toNat true) u) b ↔ _
    rw [this]
    simp only [List.mem_cons]
    constructor
    · rintro ((h | h) | h)
      · exact .inr (.inl h)
      · exact .inl h
      · exact .inr (.inr h)
    · rintro (h | h | h)
      · exact .inl (.inr h)
      · exact .inl (.inl h)
      · exact .inr h
theorem s_l1 (l : List II) (s : List IF_) (p now age : Int) (i : Int) (u : List Int) (hul : u.length ≤ 6) (hu : ∀ b ∈ u, 0 ≤ b ∧ b ≤ 5) (r : List Int) : ∀ j : Nat, j ≤ u.length → ∀ m : List Bool, m.length = 6 →
    Ev (fun k => spec_RolesOf.l0 k l s p now age (marks m (u.drop j)) (wrap64 (i + 1))) r → Ev (fun k => spec_RolesOf.l1 k l s p now age m i u (j : Int)) r := by
  refine down ?_ ?_
  · intro m hm h
    refine Ev.shift ?_
    simp only [spec_RolesOf.l1]
    rw [List.drop_length] at h
    exact Ev.if_neg (by omega) h
  · intro j hj ih m hm h
    refine Ev.shift ?_
    simp only [spec_RolesOf.l1]
    have hb := hu u[j] (List.getElem_mem hj)
    refine Ev.if_pos (by omega) (Ev.if_pos (by omega) ?_)
    rw [rd_at u hj, wrap_succ (by omega)]
    refine Ev.if_pos hb.1 (Ev.if_pos (by omega) (ih _ (by simpa using hm) ?_))
    rw [List.drop_eq_getElem_cons hj] at h
    exact h
theorem s_l2 (m : List Bool) (hm : m.length = 6) : ∀ j : Nat, j ≤ 6 → ∀ acc : List Int, acc.length ≤ j → Ev (fun k => spec_RolesOf.l2 k m acc (j : Int)) (acc ++ listed m j) := by
  refine down ?_ ?_
  · intro acc _
    refine Ev.shift ?_
    simp only [spec_RolesOf.l2]
    exact Ev.if_neg (by omega) (Ev.val (by simp [listed]))
  · intro j hj ih acc hacc
    refine Ev.shift ?_
    simp only [spec_RolesOf.l2]
    refine Ev.if_pos (by omega) (Ev.if_pos (by omega) (Ev.if_pos (by omega) ?_))
    rw [wrap_succ (by omega), listed_step m hj]
    have e : rdOf false m (j : Int) = m.getD j false := by unfold rdOf; rw [Int.toNat_natCast]
    rw [e]
    refine Ev.ite (fun hc => ?_) (fun hc => ?_)
    · refine Ev.if_pos (by omega) (Ev.to (ih (acc ++ [(j : Int)]) (by simp; omega)) ?_)
      rw [if_pos hc]; simp
    · refine Ev.to (ih acc (by omega)) ?_
      rw [if_neg hc]; simp
theorem s_roles (l : List II) (s : List IF_) (p now age : Int) (hl : l.length ≤ 1048576) (hs : s.length ≤ 1048576) : ∀ i : Nat, i ≤ s.length → ∀ m : List Bool, m.length = 6 →
    Ev (fun k => spec_RolesOf.l0 k l s p now age m (i : Int)) (listed (marks m (all l p now age (s.drop i))) 0) := by
  refine down ?_ ?_
  · intro m hm
    refine Ev.shift ?_
    simp only [spec_RolesOf.l0]
    rw [List.drop_length]
    refine Ev.if_neg (by omega) ?_
    have := s_l2 m hm 0 (by omega) [] (by simp)
    simpa [all, marks] using this
  · intro i hi ih m hm
    refine Ev.shift ?_
    simp only [spec_RolesOf.l0]
    refine Ev.if_pos (by omega) (Ev.if_pos (by omega) ?_)
    rw [rdIF s hi, List.drop_eq_getElem_cons hi]
    have no : gives p now age s[i] = false → Ev (fun k => spec_RolesOf.j1 k l s p now age m (i : Int) true) (listed (marks m (all l p now age (s[i] :: s.drop (i + 1)))) 0) := by
      intro hg
      refine Ev.shift ?_
      simp only [spec_RolesOf.j1]
      rw [wrap_succ (by omega)]
      refine Ev.if_pos (by trivial) (Ev.to (ih m hm) ?_)
      simp only [all, List.filter_cons, hg]
      rfl
    by_cases h1 : s[i].f0 = 1
    · refine Ev.if_pos h1 ?_
      by_cases h2 : s[i].f1 = p
      · refine Ev.if_pos h2 (Ev.call (s_holds _ _ _ _ _ _ _ _) ?_)
        by_cases h3 : hB s[i] now age = true
        · have h3' : Facts.holdsB s[i].f0 s[i].f1 s[i].f2 s[i].f3 s[i].f4 s[i].f5 now age = true := h3
          rw [h3']
          refine Ev.shift ?_
          simp only [spec_RolesOf.j1]
          refine Ev.if_neg (by simp) (Ev.if_pos (by omega) (Ev.if_pos (by omega) ?_))
          rw [rdIF s hi]
          refine Ev.bind (s_under l s[i].f2 hl) (s_l1 l s p now age _ _ (under_len l _) (under_in l _) _ 0 (by omega) m hm ?_)
          rw [wrap_succ (by omega), List.drop_zero]
          refine Ev.to (ih _ (marks_len _ hm)) ?_
          have hg : gives p now age s[i] = true := by simp [gives, h1, h2, h3]
          simp only [all, List.filter_cons, hg, if_true, List.flatMap_cons, marks, List.foldl_append]
        · have h3' : Facts.holdsB s[i].f0 s[i].f1 s[i].f2 s[i].f3 s[i].f4 s[i].f5 now age = false := (Bool.not_eq_true _).mp h3
          rw [h3']
          exact no (by simp [gives, h3])
      · exact Ev.if_neg h2 (no (by simp [gives, h2]))
    · exact Ev.if_neg h1 (no (by simp [gives, h1]))
theorem listed_Lst (acc : List Int) (h : ∀ b ∈ acc, 0 ≤ b ∧ b ≤ 5) : listed (marks (List.replicate 6 false) acc) 0 = Lst acc := by
  unfold listed Lst
  congr 1
  refine List.filter_congr (fun r hmem => ?_)
  have hr6 : r < 6 := by simpa using hmem
  have h1 := marks_in acc (m := List.replicate 6 false) (by simp) h (r : Int)
  have h2 : ¬ inO (List.replicate 6 false) (r : Int) := by
    rintro ⟨_, hh⟩
    rw [List.getD_eq_getElem?_getD, List.getElem?_replicate] at hh
    split at hh <;> simp at hh
  have e : ∀ m : List Bool, m.getD r false = true ↔ inO m (r : Int) := fun m => by unfold inO; rw [Int.toNat_natCast]; exact ⟨fun h => ⟨by omega, h⟩, fun h => h.2⟩
  rw [Bool.eq_iff_iff, decide_eq_true_eq, e, h1]
  exact ⟨fun h => h.resolve_left h2, .inr⟩
theorem s_rolesOf (l : List II) (s : List IF_) (p now age : Int) (hl : l.length ≤ 1048576) (hs : s.length ≤ 1048576) : Ev (fun k => spec_RolesOf.f k l s p now age) (rolesOf l s p now age) := by
  simp only [spec_RolesOf.f]
  refine Ev.if_pos (by omega) (Ev.to (s_roles l s p now age hl hs 0 (by omega) _ (by simp)) ?_)
  rw [List.drop_zero, listed_Lst _ (all_in l p now age s)]
  rfl
def hasRole (l : List II) (s : List IF_) (p r now age : Int) : Bool := decide (r ∈ rolesOf l s p now age)
theorem rolesOf_len (l : List II) (s : List IF_) (p now age : Int) : (rolesOf l s p now age).length ≤ 1048576 := Nat.le_trans (Lst_len _) (by omega)
theorem i_hasRole (l : List II) (s : List IF_) (p r now age : Int) (hs : s.length ≤ 1048576) : Ev (fun k => impl_HasRole.f k l s p r now age) (hasRole l s p r now age) := by
  simp only [impl_HasRole.f]
  exact Ev.bind (i_rolesOf l s p now age hs) (Ev.bind (i_has _ (rolesOf_len l s p now age) r) (Ev.now _))
theorem s_hasRole (l : List II) (s : List IF_) (p r now age : Int) (hl : l.length ≤ 1048576) (hs : s.length ≤ 1048576) : Ev (fun k => spec_HasRole.f k l s p r now age) (hasRole l s p r now age) := by
  simp only [spec_HasRole.f]
  exact Ev.bind (s_rolesOf l s p now age hl hs) (Ev.bind (s_has _ (rolesOf_len l s p now age) r) (Ev.now _))
theorem idx_ne {α : Type} (p : α → Bool) (s : List α) : (Funcs.idx p s != -1) = decide (Funcs.idx p s ≥ 0) := by
  unfold Funcs.idx
  by_cases h : s.findIdx p < s.length
  · rw [if_pos h, decide_eq_true (by omega)]
    exact bne_iff_ne.2 (by omega)
  · rw [if_neg h]
    rfl
theorem i_find (s : List IF_) (kind subject value now age : Int) : ∃ r, impl_FindFact.f s kind subject value now age = some r ∧ (r != -1) = (s.any fun f => f.f0 == kind && f.f1 == subject && f.f2 == value && hB f now age) := by
  exact ⟨_, rfl, (idx_ne _ s).trans (Funcs.idx_any _ s)⟩
theorem s_find (s : List IF_) (hs : s.length ≤ 1048576) (kind subject value now age : Int) :
    ∃ r, Ev (fun k => spec_FindFact.f k s kind subject value now age) r ∧ decide (r ≥ 0) = (s.any fun f => f.f0 == kind && f.f1 == subject && f.f2 == value && hB f now age) := by
  have key : ∀ i : Nat, i ≤ s.length → ∃ r, Ev (fun k => spec_FindFact.l0 k s kind subject value now age (i : Int)) r ∧ decide (r ≥ 0) = ((s.drop i).any fun f => f.f0 == kind && f.f1 == subject && f.f2 == value && hB f now age) := by
    refine down ?_ ?_
    · refine ⟨-1, Ev.shift ?_, by rw [List.drop_length]; rfl⟩
      simp only [spec_FindFact.l0]
      exact Ev.if_neg (by omega) (Ev.now _)
    · rintro i hi ⟨r, hr, hi2⟩
      rw [List.drop_eq_getElem_cons hi, List.any_cons]
      by_cases h : (s[i].f0 == kind && s[i].f1 == subject && s[i].f2 == value && hB s[i] now age) = true
      · refine ⟨i, Ev.shift ?_, by rw [h]; simp⟩
        simp only [Bool.and_eq_true, beq_iff_eq] at h
        obtain ⟨⟨⟨h1, h2⟩, h3⟩, h4⟩ := h
        simp only [spec_FindFact.l0]
        refine Ev.if_pos (by omega) (Ev.if_pos (by omega) ?_)
        rw [rdIF s hi]
        exact Ev.if_pos h1 (Ev.if_pos h2 (Ev.if_pos h3 (Ev.call (s_holds _ _ _ _ _ _ _ _) (Ev.if_pos h4 (Ev.now _)))))
      · refine ⟨r, Ev.shift ?_, by rw [(Bool.not_eq_true _).mp h, Bool.false_or]; exact hi2⟩
        simp only [spec_FindFact.l0]
        refine Ev.if_pos (by omega) (Ev.if_pos (by omega) ?_)
        rw [rdIF s hi, wrap_succ (by omega)]
        refine Ev.ite (fun h1 => Ev.ite (fun h2 => Ev.ite (fun h3 => Ev.call (s_holds _ _ _ _ _ _ _ _) (Ev.if_neg (fun h4 => h ?_) hr)) (fun _ => hr)) (fun _ => hr)) (fun _ => hr)
        have h4' : hB s[i] now age = true := h4
        simp [h1, h2, h3, h4']
  obtain ⟨r, hr, h⟩ := key 0 (by omega)
  exact ⟨r, hr, h⟩
def best (kind subject now age : Int) (b : Int) (f : IF_) : Int := if f.f0 = kind ∧ f.f1 = subject ∧ hB f now age = true then max b f.f2 else b
theorem i_best (s : List IF_) (hs : s.length ≤ 1048576) (kind subject now age : Int) : Ev (fun k => impl_BestValue.f k s kind subject now age) (s.foldl (best kind subject now age) (-1)) := by
  have key : ∀ i : Nat, i ≤ s.length → ∀ b : Int, Ev (fun k => impl_BestValue.l0 k kind subject now age b s (s.length : Int) (i : Int)) ((s.drop i).foldl (best kind subject now age) b) := by
    refine down ?_ ?_
    · intro b
      refine Ev.shift ?_
      simp only [impl_BestValue.l0]
      exact Ev.if_neg (by omega) (Ev.val (by simp))
    · intro i hi ih b
      refine Ev.shift ?_
      simp only [impl_BestValue.l0]
      refine Ev.if_pos (by omega) (Ev.if_pos (by omega) (Ev.if_pos (by omega) ?_))
      rw [rdIF s hi, wrap_succ (by omega), List.drop_eq_getElem_cons hi, List.foldl_cons]
      refine Ev.ite (fun h1 => Ev.ite (fun h2 => Ev.call (holdsAt_f _ _ _ _ _ _ _ _) (Ev.ite (fun h3 => ?_) (fun h3 => ?_))) (fun h2 => ?_)) (fun h1 => ?_)
      · have e : best kind subject now age b s[i] = mx b s[i].f2 := by unfold best mx; rw [if_pos ⟨h1, h2, h3⟩]; omega
        rw [e]; exact ih _
      · have e : best kind subject now age b s[i] = b := by unfold best; rw [if_neg (fun h => h3 h.2.2)]
        rw [e]; exact ih _
      · have e : best kind subject now age b s[i] = b := by unfold best; rw [if_neg (fun h => h2 h.2.1)]
        rw [e]; exact ih _
      · have e : best kind subject now age b s[i] = b := by unfold best; rw [if_neg (fun h => h1 h.1)]
        rw [e]; exact ih _
  simp only [impl_BestValue.f]
  exact key 0 (by omega) (-1)
theorem s_best (s : List IF_) (hs : s.length ≤ 1048576) (kind subject now age : Int) : Ev (fun k => spec_BestValue.f k s kind subject now age) (s.foldl (best kind subject now age) (-1)) := by
  have key : ∀ i : Nat, i ≤ s.length → ∀ b : Int, Ev (fun k => spec_BestValue.l0 k s kind subject now age b (i : Int)) ((s.drop i).foldl (best kind subject now age) b) := by
    refine down ?_ ?_
    · intro b
      refine Ev.shift ?_
      simp only [spec_BestValue.l0]
      exact Ev.if_neg (by omega) (Ev.val (by simp))
    · intro i hi ih b
      refine Ev.shift ?_
      simp only [spec_BestValue.l0]
      refine Ev.if_pos (by omega) (Ev.if_pos (by omega) ?_)
      rw [rdIF s hi, wrap_succ (by omega), List.drop_eq_getElem_cons hi, List.foldl_cons]
      refine Ev.ite (fun h1 => Ev.ite (fun h2 => Ev.call (s_holds _ _ _ _ _ _ _ _) (Ev.ite (fun h3 => ?_) (fun h3 => ?_))) (fun h2 => ?_)) (fun h1 => ?_)
      · have e : best kind subject now age b s[i] = max b s[i].f2 := by unfold best; rw [if_pos ⟨h1, h2, h3⟩]
        rw [e]
        refine Ev.call (a := max b s[i].f2) ?_ (ih _)
        unfold spec_Max.f
        split
        · congr 1; omega
        · congr 1; omega
      · have e : best kind subject now age b s[i] = b := by unfold best; rw [if_neg (fun h => h3 h.2.2)]
        rw [e]; exact ih _
      · have e : best kind subject now age b s[i] = b := by unfold best; rw [if_neg (fun h => h2 h.2.1)]
        rw [e]; exact ih _
      · have e : best kind subject now age b s[i] = b := by unfold best; rw [if_neg (fun h => h1 h.1)]
        rw [e]; exact ih _
  simp only [spec_BestValue.f]
  exact key 0 (by omega) (-1)
def leafB (l : List II) (s : List IF_) (op a b : Int) (p d g act o now : Int) : Bool :=
  if op = 1 then true else if op = 2 then hasRole l s p a now b else if op = 3 then s.any (fun f => f.f0 == 2 && f.f1 == p && f.f2 == d && hB f now b)
  else if op = 4 then decide (s.foldl (best 3 d now b) (-1) ≥ a) else if op = 5 then decide (s.foldl (best 4 g now b) (-1) ≥ a) else if op = 6 then decide (now ≤ a) else false
theorem i_leaf (l : List II) (s : List IF_) (hs : s.length ≤ 1048576) (op a b : Int) (args : List S109) (p d g act o now : Int) :
    Ev (fun k => impl_LeafHolds.f k l s op a b args p d g act o now) (leafB l s op a b p d g act o now) := by
  simp only [impl_LeafHolds.f, leafB]
  by_cases h1 : op = 1
  · rw [if_pos h1]; exact Ev.if_pos h1 (Ev.now _)
  rw [if_neg h1]; refine Ev.if_neg h1 ?_
  by_cases h2 : op = 2
  · rw [if_pos h2]; exact Ev.if_pos h2 (Ev.bind (i_hasRole l s p a now b hs) (Ev.now _))
  rw [if_neg h2]; refine Ev.if_neg h2 ?_
  by_cases h3 : op = 3
  · obtain ⟨r, e, h⟩ := i_find s 2 p d now b
    rw [if_pos h3, ← h]; exact Ev.if_pos h3 (Ev.call e (Ev.now _))
  rw [if_neg h3]; refine Ev.if_neg h3 ?_
  by_cases h4 : op = 4
  · rw [if_pos h4]; exact Ev.if_pos h4 (Ev.bind (i_best s hs 3 d now b) (Ev.now _))
  rw [if_neg h4]; refine Ev.if_neg h4 ?_
  by_cases h5 : op = 5
  · rw [if_pos h5]; exact Ev.if_pos h5 (Ev.bind (i_best s hs 4 g now b) (Ev.now _))
  rw [if_neg h5]; refine Ev.if_neg h5 ?_
  by_cases h6 : op = 6
  · exact Ev.if_pos h6 (Ev.val (by rw [if_pos h6]))
  exact Ev.if_neg h6 (Ev.val (by rw [if_neg h6]))
theorem s_leaf (l : List II) (s : List IF_) (hl : l.length ≤ 1048576) (hs : s.length ≤ 1048576) (op a b : Int) (args : List S109) (p d g act o now : Int) :
    Ev (fun k => spec_LeafHolds.f k l s op a b args p d g act o now) (leafB l s op a b p d g act o now) := by
  simp only [spec_LeafHolds.f, leafB]
  by_cases h1 : op = 1
  · rw [if_pos h1]; exact Ev.if_pos h1 (Ev.now _)
  rw [if_neg h1]; refine Ev.if_neg h1 ?_
  by_cases h2 : op = 2
  · rw [if_pos h2]; exact Ev.if_pos h2 (Ev.bind (s_hasRole l s p a now b hl hs) (Ev.now _))
  rw [if_neg h2]; refine Ev.if_neg h2 ?_
  by_cases h3 : op = 3
  · obtain ⟨r, e, h⟩ := s_find s hs 2 p d now b
    rw [if_pos h3, ← h]; exact Ev.if_pos h3 (Ev.bind e (Ev.now _))
  rw [if_neg h3]; refine Ev.if_neg h3 ?_
  by_cases h4 : op = 4
  · rw [if_pos h4]; exact Ev.if_pos h4 (Ev.bind (s_best s hs 3 d now b) (Ev.now _))
  rw [if_neg h4]; refine Ev.if_neg h4 ?_
  by_cases h5 : op = 5
  · rw [if_pos h5]; exact Ev.if_pos h5 (Ev.bind (s_best s hs 4 g now b) (Ev.now _))
  rw [if_neg h5]; refine Ev.if_neg h5 ?_
  by_cases h6 : op = 6
  · exact Ev.if_pos h6 (Ev.val (by rw [if_pos h6]))
  exact Ev.if_neg h6 (Ev.val (by rw [if_neg h6]))
end Go.Proofs.Ytbfochojhmggfaa.PLeaf
end
section
namespace Go.Proofs.Ytbfochojhmggfaa.Pure
open Go.RowKit Go.Proofs.Ytbfochojhmggfaa.R Go.Proofs.YtbfochojhmggfaaW.PrintWords Go.Proofs.Ytbfochojhmggfaa.Base Go.Proofs.Ytbfochojhmggfaa.PTree Go.Proofs.Ytbfochojhmggfaa.PFacts Go.Proofs.Ytbfochojhmggfaa.PLeaf
set_option linter.unusedVariables false
theorem FnExactLeafHolds (l0 : List LI) (l1 : List LF) (a b c : Int) (l2 : List LC) (p d g act o now : Int) (h0 : l0.length ≤ 9223372036854775807) (h1 : l1.length ≤ 9223372036854775807) (h2 : l2.length ≤ 9223372036854775807 ∧ fits l2) :
    ∃ k, laws_FnExactLeafHolds.f k l0 l1 a b c l2 p d g act o now = some true := by
  refine Ev.rounds (g := fun k => laws_FnExactLeafHolds.f k l0 l1 a b c l2 p d g act o now) ?_
  simp only [laws_FnExactLeafHolds.f]
  refine Ev.call (szI_eq l0 _ h0 (by omega) (by omega)) ?_
  by_cases c0 : (l0.length : Int) ≤ 1048576
  · rw [show left l0.length 1048576 = 1048576 - (l0.length : Int) by rw [left, if_pos c0]]
    refine Ev.if_neg (by omega) (Ev.call (szF_eq l1 _ h1 (by omega) (by omega)) ?_)
    by_cases c1 : (l1.length : Int) ≤ 1048576 - (l0.length : Int)
    · rw [show left l1.length (1048576 - (l0.length : Int)) = 1048576 - (l0.length : Int) - l1.length by rw [left, if_pos c1]]
      refine Ev.if_neg (by omega) (Ev.bind (sz_ev ⟨a, b, c, l2⟩ (by rw [fit]; exact h2) _ (by omega) (by omega)) ?_)
      rw [show siz ⟨a, b, c, l2⟩ = sizs l2 by rw [siz]]
      by_cases c2 : (sizs l2 : Int) ≤ 1048576 - (l0.length : Int) - l1.length
      · rw [show left (sizs l2) (1048576 - (l0.length : Int) - l1.length) = 1048576 - (l0.length : Int) - l1.length - sizs l2 by rw [left, if_pos c2]]
        refine Ev.if_neg (by omega) ?_
        have tI := toI_ev l0 (by omega)
        have tF := toF_ev l1 (by omega)
        have tC := to_ev ⟨a, b, c, l2⟩ (by rw [siz]; omega)
        have eC : (cv ⟨a, b, c, l2⟩).f3 = l2.map cv := by rw [cv, cvs_map]
        rw [eC] at tC
        have lI : (l0.map cvI).length ≤ 1048576 := by rw [List.length_map]; omega
        have lF : (l1.map cvF).length ≤ 1048576 := by rw [List.length_map]; omega
        have sC : isiz ⟨a, b, c, l2.map cv⟩ ≤ 1048576 := by rw [isiz, ← cvs_map, isizs_cv]; omega
        refine Ev.bind tI (Ev.bind tF (Ev.bind tC (Ev.call (show laws_toRequest.f p d g act o now = some (p, d, g, act, o, now) from rfl) (Ev.bind (s_leaf _ _ lI lF _ _ _ _ _ _ _ _ _ _) ?_))))
        refine Ev.bind tI (Ev.bind tF (Ev.bind tC (Ev.call (show laws_toRequest.f p d g act o now = some (p, d, g, act, o, now) from rfl) (Ev.bind (i_leaf _ _ lF _ _ _ _ _ _ _ _ _ _) ?_))))
        refine Ev.if_neg (by simp) (Ev.bind tI (Ev.bind (eqI_ev _ lI) (Ev.if_pos rfl (Ev.bind tF (Ev.bind (eqF_ev _ lF) (Ev.if_pos rfl (Ev.bind tC (Ev.bind (eq_ev ⟨a, b, c, l2.map cv⟩ sC) (Ev.if_pos rfl (Ev.now _))))))))))
      · rw [show left (sizs l2) (1048576 - (l0.length : Int) - l1.length) = -1 by rw [left, if_neg c2]]
        exact Ev.if_pos (by omega) (Ev.now _)
    · rw [show left l1.length (1048576 - (l0.length : Int)) = -1 by rw [left, if_neg c1]]
      exact Ev.if_pos (by omega) (Ev.now _)
  · rw [show left l0.length 1048576 = -1 by rw [left, if_neg c0]]
    exact Ev.if_pos (by omega) (Ev.now _)
end Go.Proofs.Ytbfochojhmggfaa.Pure
end
section
namespace Go.Proofs.Ytbfochojhmggfaa.fnExactLeafHolds
open Go.ChangeShapes Go.WideShapes Go.ChangeAt Go.RowKit Go.Proofs.YtbfochojhmggfaaW.PrintWords Go.Proofs.Ytbfochojhmggfaa.R
open Go.ChangeMaps (open_string shut_string)
set_option linter.unusedVariables false
theorem own : ownKnob Try.prog.godebug = none := by kernel_rfl
theorem laidOut : laidOutB Try.prog = true := by kernel_rfl
set_option maxRecDepth 100000 in
theorem lifted (os : Os) (started : os.Started) (H : Type) (enc : TypeId × Value → H) :
    ReturnsInHanded {} Try.checked os 10 .any (Rows.fnExactLeafHoldsSpec.pre6 enc Try.prog Try.f10 Rows.fnExactLeafHoldsRow.domain false) (Rows.fnExactLeafHoldsSpec.post enc Try.prog Try.f10 false true false false) := by
  refine returnsInHanded_of_change_sized (C := Try.checked) own started (by kernel_rfl) Try.func10
    (ChangeSpec.witness6 (enc := enc) (C := Try.checked) false ⟨#[], #[.slice none 0 0, .slice none 0 0, .agg #[.int .i64 0, .int .i64 0, .int .i64 0, .slice none 0 0], .agg #[.int .i64 0, .int .i64 0, .int .i64 0, .int .i64 0, .int .i64 0, .int .i64 0]], []⟩ 8 (by kernel_rfl) (by kernel_rfl) (by kernel_rfl) (by kernel_rfl)) ?_
  intro W base args ds gs before hval0 hW hcnd hsz0 _
  have hval : ∀ (j : Nat) t v, Try.f10.params[j]? = some t → args[j]? = some v → Value.okWide Try.prog W .any base t v := hval0
  have hW' := hW
  obtain ⟨p, q, hA0, hV, rfl, hfz, hnd⟩ := hW
  have hA : DataW.TrodAll enc Try.prog W 0 (fun _ => true) true Try.f10.params.toList args.toList ds p := hA0
  rw [Try.params10] at hA hval
  obtain ⟨v0, vs0, d0, ds0, p0, q0, hargs, rfl, rfl, h0, r0⟩ := trodAll_cons hA
  obtain ⟨v1, vs1, d1, ds1, p1, q1, rfl, rfl, rfl, h1, r1⟩ := trodAll_cons r0
  obtain ⟨v2, vs2, d2, ds2, p2, q2, rfl, rfl, rfl, h2, r2⟩ := trodAll_cons r1
  obtain ⟨v3, vs3, d3, ds3, p3, q3, rfl, rfl, rfl, h3, r3⟩ := trodAll_cons r2
  obtain ⟨rfl, rfl, rfl⟩ := trodAll_nil r3
  obtain rfl : args = #[v0, v1, v2, v3] := by cases args; simp_all
  obtain ⟨rfl, rfl⟩ := trodVars_none hV
  have k0 := h0
  have lt0 : ∀ x ∈ p0, x.block < W.heap.size := by obtain ⟨m, hm⟩ := k0; exact DataW.trod_lt m _ _ _ hm
  obtain ⟨a0, len0, cap0, rfl⟩ := okWide_slice Try.underlying71 (hval 0 71 v0 rfl rfl)
  obtain ⟨x0, A0, c0, e0, l0, C0⟩ : ∃ xs, ∃ A c, (Value.slice a0 len0 cap0).cells.toList = [.slice A xs.length c] ∧ xs.length ≤ c ∧ Kd.C k178 W A xs.length xs := by obtain ⟨f, hf⟩ := h0; exact Reads.rd_slice Try.underlying71 (by kernel_rfl) (Opens.rd178 f) f (by omega) _ _ hf
  simp only [Value.cells, List.cons.injEq, Value.slice.injEq, and_true] at e0
  obtain ⟨rfl, rfl, rfl⟩ := e0
  have k1 := h1
  have lt1 : ∀ x ∈ p1, x.block < W.heap.size := by obtain ⟨m, hm⟩ := k1; exact DataW.trod_lt m _ _ _ hm
  obtain ⟨a1, len1, cap1, rfl⟩ := okWide_slice Try.underlying97 (hval 1 97 v1 rfl rfl)
  obtain ⟨x1, A1, c1, e1, l1, C1⟩ : ∃ xs, ∃ A c, (Value.slice a1 len1 cap1).cells.toList = [.slice A xs.length c] ∧ xs.length ≤ c ∧ Kd.C k189 W A xs.length xs := by obtain ⟨f, hf⟩ := h1; exact Reads.rd_slice Try.underlying97 (by kernel_rfl) (Opens.rd189 f) f (by omega) _ _ hf
  simp only [Value.cells, List.cons.injEq, Value.slice.injEq, and_true] at e1
  obtain ⟨rfl, rfl, rfl⟩ := e1
  have k2 := h2
  have lt2 : ∀ x ∈ p2, x.block < W.heap.size := by obtain ⟨m, hm⟩ := k2; exact DataW.trod_lt m _ _ _ hm
  obtain ⟨c2, rfl, _⟩ := okWide_struct Try.underlying100 (hval 2 100 v2 rfl rfl)
  obtain ⟨x2, K2⟩ : ∃ x, k100.K W x c2.toList := by obtain ⟨f, hf⟩ := h2; exact Opens.rd100 f f (Nat.le_refl _) _ _ hf
  obtain ⟨A2_3, c2_3, e2, l2_3, C2_3⟩ := k100_open K2
  obtain rfl : c2 = #[.int .i64 x2.f0, .int .i64 x2.f1, .int .i64 x2.f2, .slice A2_3 x2.f3.length c2_3] := by cases c2; simpa using e2
  have k3 := h3
  have lt3 : ∀ x ∈ p3, x.block < W.heap.size := by obtain ⟨m, hm⟩ := k3; exact DataW.trod_lt m _ _ _ hm
  obtain ⟨c3, rfl, _⟩ := okWide_struct Try.underlying102 (hval 3 102 v3 rfl rfl)
  obtain ⟨x3, K3⟩ : ∃ x, Opens.k102.K W x c3.toList := by obtain ⟨f, hf⟩ := h3; exact Opens.rd102 f f (Nat.le_refl _) _ _ hf
  have e3 := Opens.k102_open K3
  obtain rfl : c3 = #[.int .i64 x3.f0, .int .i64 x3.f1, .int .i64 x3.f2, .int .i64 x3.f3, .int .i64 x3.f4, .int .i64 x3.f5] := by cases c3; simpa using e3
  clear hA0 hval0 hsz0
  obtain ⟨k, hk⟩ := Pure.FnExactLeafHolds x0 x1 x2.f0 x2.f1 x2.f2 x2.f3 x3.f0 x3.f1 x3.f2 x3.f3 x3.f4 x3.f5 C0.2.1 C1.2.1 (PTree.fits_of C2_3)
  refine (laws_FnExactLeafHolds.calls k _ _ x0 _ _ x1 x2.f0 x2.f1 x2.f2 _ _ x2.f3 x3.f0 x3.f1 x3.f2 x3.f3 x3.f4 x3.f5 true W C0 l0 C1 l1 C2_3 l2_3 hk).mono fun e W' ⟨he, bel⟩ => ?_
  subst he
  exact ⟨_, rfl, _, _, _, [], _, [], hW', trodAll_mk1 (shut_bool Try.underlying4 _), (trodAll_cons_mk (Below.trod laidOut (by kernel_rfl) (of_decide_eq_true (by kernel_rfl)) k0 bel lt0) (trodAll_cons_mk (Below.trod laidOut (by kernel_rfl) (of_decide_eq_true (by kernel_rfl)) k1 bel lt1) (trodAll_cons_mk (Below.trod laidOut (by kernel_rfl) (of_decide_eq_true (by kernel_rfl)) k2 bel lt2) (trodAll_cons_mk (Below.trod laidOut (by kernel_rfl) (of_decide_eq_true (by kernel_rfl)) k3 bel lt3) trodAll_mk0)))), rfl, bel.frame _, fun h => by cases h⟩
set_option maxHeartbeats 8000000 in
theorem closed : joinedFacts Try.pinned.checked.prog 10 Try.f10 Rows.fnExactLeafHoldsSpec Rows.fnExactLeafHoldsRow = true := by
  unfold joinedFacts
  simp only [Bool.and_eq_true]
  repeat' apply And.intro
  all_goals as_aux_lemma => kernel_rfl
theorem over : Rows.fnExactLeafHoldsRow.holds Try.pinned (OpenSpec.ofChange Rows.fnExactLeafHoldsSpec) :=
  OpenClaim.holds_of_wide 10 Try.f10 rfl rfl rfl rfl rfl rfl rfl ⟨rfl, rfl, rfl, rfl, rfl⟩ rfl rfl rfl rfl rfl (by kernel_rfl) Try.func10 closed
    (of_decide_eq_true (by kernel_rfl)) (by unfold Func.isWrapper; first | (rw [if_pos (by decide +kernel)]; kernel_rfl) | (rw [if_neg (by decide +kernel)]; exact ⟨rfl, rfl⟩))
    (fun os started H enc _ => lifted os started H enc)
theorem proved : Rows.FnExactLeafHoldsSaid := over
end Go.Proofs.Ytbfochojhmggfaa.fnExactLeafHolds
namespace Go.Proofs.Ytbfochojhmggfaa
theorem fnExactLeafHolds_holds : Rows.FnExactLeafHoldsSaid := fnExactLeafHolds.proved
end Go.Proofs.Ytbfochojhmggfaa
end
