/- What the functions of the program compute, in the interpreter. -/
import Derived.Test.YtbfochojhmggfaaGreatAiQ1
set_option linter.unusedSimpArgs false
set_option linter.unusedVariables false
/- Which roles are reached by pairs, in plain Lean: a search, and rounds of marks. -/
namespace Go.AI.Rl
set_option linter.unusedVariables false
def hit (a : Int) (o : List Bool) (x : Inc) : Bool := decide (x.g = a) && decide (0 ≤ x.l ∧ x.l ≤ 5) && !(o.getD x.l.toNat false)
def bstep (a : Int) (s : List Bool × List Int) (x : Inc) : List Bool × List Int := if hit a s.1 x then (s.1.set x.l.toNat true, s.2 ++ [x.l]) else s
def mu (o : List Bool) (t : List Int) : Nat := 2 * o.count false + t.length
/-- The search: what was reached, and what is still to do. -/
def bfs (l : List Inc) : Nat → List Bool → List Int → List Bool
  | 0, o, _ => o
  | _ + 1, o, [] => o
  | n + 1, o, a :: t => bfs l n (l.foldl (bstep a) (o, t)).1 (l.foldl (bstep a) (o, t)).2
def none6 : List Bool := [false, false, false, false, false, false]
/-- The roles that are reached from a role by one or more pairs. -/
def reached (l : List Inc) (role : Int) : List Bool := bfs l 13 none6 [role]
theorem count_set {o : List Bool} {j : Nat} (hj : j < o.length) (h : o.getD j false = false) : (o.set j true).count false + 1 = o.count false := by
  induction o generalizing j with
  | nil => simp at hj
  | cons b o ih =>
    cases j with
    | zero =>
      simp only [List.getD_cons_zero] at h
      subst h
      simp
    | succ j =>
      simp only [List.getD_cons_succ] at h
      simp only [List.length_cons] at hj
      have := ih (by omega) h
      simp only [List.set_cons_succ, List.count_cons]
      omega
theorem bstep_len {a : Int} {s : List Bool × List Int} {x : Inc} (h : s.1.length = 6) : (bstep a s x).1.length = 6 := by
  unfold bstep
  split
  · simpa using h
  · exact h
theorem bstep_mu {a : Int} {s : List Bool × List Int} {x : Inc} (h : s.1.length = 6) : mu (bstep a s x).1 (bstep a s x).2 ≤ mu s.1 s.2 := by
  unfold bstep
  split
  · rename_i hh
    simp only [hit, Bool.and_eq_true, decide_eq_true_eq, Bool.not_eq_true'] at hh
    have := count_set (o := s.1) (j := x.l.toNat) (by omega) hh.2
    simp only [mu, List.length_append, List.length_cons, List.length_nil]
    omega
  · exact Nat.le_refl _
theorem fold_len {a : Int} (l : List Inc) {s : List Bool × List Int} (h : s.1.length = 6) : (l.foldl (bstep a) s).1.length = 6 := by
  induction l generalizing s with
  | nil => exact h
  | cons x l ih => exact ih (bstep_len h)
theorem fold_mu {a : Int} (l : List Inc) {s : List Bool × List Int} (h : s.1.length = 6) : mu (l.foldl (bstep a) s).1 (l.foldl (bstep a) s).2 ≤ mu s.1 s.2 := by
  induction l generalizing s with
  | nil => exact Nat.le_refl _
  | cons x l ih => exact Nat.le_trans (ih (bstep_len h)) (bstep_mu h)
theorem bfs_len (l : List Inc) : ∀ n o t, o.length = 6 → (bfs l n o t).length = 6
  | 0, o, t, h => h
  | n + 1, o, [], h => h
  | n + 1, o, a :: t, h => bfs_len l n _ _ (fold_len l h)
theorem reached_len (l : List Inc) (role : Int) : (reached l role).length = 6 := bfs_len l _ _ _ rfl
def inO (o : List Bool) (b : Int) : Prop := (0 ≤ b ∧ b ≤ 5) ∧ o.getD b.toNat false = true
instance (o : List Bool) (b : Int) : Decidable (inO o b) := inferInstanceAs (Decidable (_ ∧ _))
/-- Reached by one or more pairs. -/
inductive Rch (l : List Inc) (role : Int) : Int → Prop
  | one (x : Inc) : x ∈ l → x.g = role → 0 ≤ x.l ∧ x.l ≤ 5 → Rch l role x.l
  | more (x : Inc) : x ∈ l → Rch l role x.g → 0 ≤ x.l ∧ x.l ≤ 5 → Rch l role x.l

theorem inO_set {o : List Bool} (ho : o.length = 6) {j : Int} (hj : 0 ≤ j ∧ j ≤ 5) (b : Int) : inO (o.set j.toNat true) b ↔ b = j ∨ inO o b := by
  unfold inO
  constructor
  · rintro ⟨hb, h⟩
    by_cases e : b = j
    · exact .inl e
    · refine .inr ⟨hb, ?_⟩
      rw [List.getD_eq_getElem?_getD, List.getElem?_set_ne (by omega)] at h
      rwa [List.getD_eq_getElem?_getD]
  · rintro (rfl | ⟨hb, h⟩)
    · refine ⟨hj, ?_⟩
      rw [List.getD_eq_getElem?_getD, List.getElem?_set_self (by omega)]
      rfl
    · refine ⟨hb, ?_⟩
      rw [List.getD_eq_getElem?_getD, List.getElem?_set]
      split
      · split <;> first | rfl | omega
      · rwa [List.getD_eq_getElem?_getD] at h
theorem not_inO {o : List Bool} {b : Int} (hb : 0 ≤ b ∧ b ≤ 5) : ¬ inO o b ↔ o.getD b.toNat false = false := by
  unfold inO
  simp [hb]
/-- One pair of the search. -/
theorem bstep_cases {a : Int} {o : List Bool} {t : List Int} {x : Inc} (ho : o.length = 6) :
    ((x.g = a ∧ (0 ≤ x.l ∧ x.l ≤ 5) ∧ ¬ inO o x.l) ∧ bstep a (o, t) x = (o.set x.l.toNat true, t ++ [x.l])) ∨ (¬ (x.g = a ∧ (0 ≤ x.l ∧ x.l ≤ 5) ∧ ¬ inO o x.l) ∧ bstep a (o, t) x = (o, t)) := by
  by_cases h : x.g = a ∧ (0 ≤ x.l ∧ x.l ≤ 5) ∧ ¬ inO o x.l
  · refine .inl ⟨h, ?_⟩
    have h3 := (not_inO h.2.1).1 h.2.2
    have : hit a o x = true := by unfold hit; rw [h3]; simp [h.1, h.2.1]
    simp only [bstep, this, if_true]
  · refine .inr ⟨h, ?_⟩
    have : hit a o x = false := by
      unfold hit
      by_cases h1 : x.g = a
      · by_cases h2 : 0 ≤ x.l ∧ x.l ≤ 5
        · have h3 : inO o x.l := Classical.byContradiction fun hn => h ⟨h1, h2, hn⟩
          rw [h3.2]; simp
        · simp [h2]
      · simp [h1]
    simp only [bstep, this]
    rfl
theorem fold_props {a : Int} : ∀ (l' : List Inc) (o : List Bool) (t : List Int), o.length = 6 →
    (∀ b, inO o b → inO (l'.foldl (bstep a) (o, t)).1 b) ∧ (∀ b, b ∈ t → b ∈ (l'.foldl (bstep a) (o, t)).2) ∧ (∀ b, inO (l'.foldl (bstep a) (o, t)).1 b → inO o b ∨ b ∈ (l'.foldl (bstep a) (o, t)).2) ∧
    (∀ x ∈ l', x.g = a → (0 ≤ x.l ∧ x.l ≤ 5) → inO (l'.foldl (bstep a) (o, t)).1 x.l) ∧ (∀ b, inO (l'.foldl (bstep a) (o, t)).1 b → inO o b ∨ ∃ x ∈ l', x.g = a ∧ (0 ≤ x.l ∧ x.l ≤ 5) ∧ x.l = b)
  | [], o, t, ho => ⟨fun _ h => h, fun _ h => h, fun _ h => .inl h, (fun x hx => absurd hx (by simp)), fun _ h => .inl h⟩
  | x :: l', o, t, ho => by
    rw [List.foldl_cons]
    rcases bstep_cases (a := a) (t := t) (x := x) ho with ⟨⟨h1, h2, h3⟩, e⟩ | ⟨hn, e⟩
    · rw [e]
      have hl : (o.set x.l.toNat true).length = 6 := by simpa using ho
      obtain ⟨p1, p2, p3, p4, p5⟩ := fold_props (a := a) l' (o.set x.l.toNat true) (t ++ [x.l]) hl
      refine ⟨fun b hb => p1 b ((inO_set ho h2 b).2 (.inr hb)), fun b hb => p2 b (by simp [hb]), fun b hb => ?_, fun y hy hya hyr => ?_, fun b hb => ?_⟩
      · rcases p3 b hb with h | h
        · rcases (inO_set ho h2 b).1 h with rfl | h
          · exact .inr (p2 _ (by simp))
          · exact .inl h
        · exact .inr h
      · rcases List.mem_cons.1 hy with rfl | hy
        · exact p1 _ ((inO_set ho h2 _).2 (.inl rfl))
        · exact p4 y hy hya hyr
      · rcases p5 b hb with h | ⟨y, hy, h⟩
        · rcases (inO_set ho h2 b).1 h with rfl | h
          · exact .inr ⟨x, by simp, h1, h2, rfl⟩
          · exact .inl h
        · exact .inr ⟨y, by simp [hy], h⟩
    · rw [e]
      obtain ⟨p1, p2, p3, p4, p5⟩ := fold_props (a := a) l' o t ho
      refine ⟨p1, p2, p3, fun y hy hya hyr => ?_, fun b hb => ?_⟩
      · rcases List.mem_cons.1 hy with rfl | hy
        · exact p1 _ (Classical.byContradiction fun hc => hn ⟨hya, hyr, hc⟩)
        · exact p4 y hy hya hyr
      · rcases p5 b hb with h | ⟨y, hy, h⟩
        · exact .inl h
        · exact .inr ⟨y, by simp [hy], h⟩

theorem bfs_props (l : List Inc) (role : Int) : ∀ (n : Nat) (o : List Bool) (t : List Int), o.length = 6 → mu o t ≤ n →
    (∀ x ∈ l, (0 ≤ x.l ∧ x.l ≤ 5) → (x.g = role ∨ inO o x.g) → inO o x.l ∨ x.g ∈ t) → (∀ b, inO o b → Rch l role b) → (∀ b ∈ t, b = role ∨ inO o b) →
    (∀ x ∈ l, (0 ≤ x.l ∧ x.l ≤ 5) → (x.g = role ∨ inO (bfs l n o t) x.g) → inO (bfs l n o t) x.l) ∧ (∀ b, inO (bfs l n o t) b → Rch l role b)
  | 0, o, t, ho, hm, hi, hs, ht => by
    have : t = [] := List.eq_nil_of_length_eq_zero (by unfold mu at hm; omega)
    subst this
    exact ⟨fun x hx hr h => (hi x hx hr h).resolve_right (by simp), hs⟩
  | n + 1, o, [], ho, hm, hi, hs, ht => ⟨fun x hx hr h => (hi x hx hr h).resolve_right (by simp), hs⟩
  | n + 1, o, a :: t, ho, hm, hi, hs, ht => by
    obtain ⟨p1, p2, p3, p4, p5⟩ := fold_props (a := a) l o t ho
    have hmu := fold_mu (a := a) l (s := (o, t)) ho
    have hlen := fold_len (a := a) l (s := (o, t)) ho
    rw [bfs]
    have p6 : ∀ (l' : List Inc) (o : List Bool) (t : List Int), o.length = 6 → ∀ b ∈ (l'.foldl (bstep a) (o, t)).2, b ∈ t ∨ inO (l'.foldl (bstep a) (o, t)).1 b := by
      intro l'
      induction l' with
      | nil => intro o t _ b hb; exact .inl hb
      | cons x l' ih =>
        intro o t ho b hb
        rw [List.foldl_cons] at hb ⊢
        rcases bstep_cases (a := a) (t := t) (x := x) ho with ⟨⟨h1, h2, h3⟩, e⟩ | ⟨hn, e⟩
        · rw [e] at hb ⊢
          have hl : (o.set x.l.toNat true).length = 6 := by simpa using ho
          rcases ih _ _ hl b hb with h | h
          · rcases List.mem_append.1 h with h | h
            · exact .inl h
            · rw [List.mem_singleton] at h
              subst h
              exact .inr ((fold_props (a := a) l' _ _ hl).1 _ ((inO_set ho h2 _).2 (.inl rfl)))
          · exact .inr h
        · rw [e] at hb ⊢
          exact ih o t ho b hb
    refine bfs_props l role n _ _ hlen (by simp only [mu, List.length_cons] at hm hmu ⊢; omega) ?_ ?_ ?_
    · intro x hx hr hxr
      by_cases hxa : x.g = a
      · exact .inl (p4 x hx hxa hr)
      · have h2 : (x.g = role ∨ inO o x.g) ∨ x.g ∈ (l.foldl (bstep a) (o, t)).2 := by
          rcases hxr with h | h
          · exact .inl (.inl h)
          · rcases p3 _ h with h | h
            · exact .inl (.inr h)
            · exact .inr h
        rcases h2 with h2 | h2
        · rcases hi x hx hr h2 with h | h
          · exact .inl (p1 _ h)
          · rcases List.mem_cons.1 h with h | h
            · exact absurd h hxa
            · exact .inr (p2 _ h)
        · exact .inr h2
    · intro b hb
      rcases p5 b hb with h | ⟨x, hx, hxa, hr, rfl⟩
      · exact hs b h
      · rcases ht a (by simp) with h | h
        · exact .one x hx (hxa.trans h) hr
        · exact .more x hx (hxa ▸ hs a h) hr
    · intro b hb
      rcases p6 l o t ho b hb with h | h
      · rcases ht b (by simp [h]) with h | h
        · exact .inl h
        · exact .inr (p1 _ h)
      · exact .inr h
theorem reached_iff (l : List Inc) (role b : Int) : inO (reached l role) b ↔ Rch l role b := by
  have hn : ∀ b, ¬ inO none6 b := by
    rintro b ⟨hb, h⟩
    have : b.toNat = 0 ∨ b.toNat = 1 ∨ b.toNat = 2 ∨ b.toNat = 3 ∨ b.toNat = 4 ∨ b.toNat = 5 := by omega
    rcases this with e | e | e | e | e | e <;> rw [e] at h <;> simp [none6] at h
  obtain ⟨h1, h2⟩ := bfs_props l role 13 none6 [role] rfl (by simp [mu, none6]) (fun x hx hr h => .inr (h.elim (fun h => by simp [h]) (fun h => absurd h (hn _)))) (fun b h => absurd h (hn b)) (fun b hb => .inl (by simpa using hb))
  refine ⟨h2 b, fun h => ?_⟩
  induction h with
  | one x hx e hr => exact h1 x hx hr (.inl e)
  | more x hx _ hr ih => exact h1 x hx hr (.inr ih)
def sstep (m : List Bool) (x : Inc) : List Bool := if inO m x.g ∧ (0 ≤ x.l ∧ x.l ≤ 5) then m.set x.l.toNat true else m
def pass (l : List Inc) (m : List Bool) : List Bool := l.foldl sstep m
def passes (l : List Inc) : Nat → List Bool → List Bool
  | 0, m => m
  | n + 1, m => passes l n (pass l m)
theorem sstep_len {m : List Bool} {x : Inc} (h : m.length = 6) : (sstep m x).length = 6 := by unfold sstep; split <;> simpa using h
theorem fold_slen : ∀ (l : List Inc) {m : List Bool}, m.length = 6 → (l.foldl sstep m).length = 6
  | [], _, h => h
  | x :: l, _, h => fold_slen l (sstep_len h)
theorem inO_sstep {m : List Bool} {x : Inc} (h : m.length = 6) (b : Int) : inO (sstep m x) b ↔ inO m b ∨ (inO m x.g ∧ (0 ≤ x.l ∧ x.l ≤ 5) ∧ b = x.l) := by
  unfold sstep
  by_cases hc : inO m x.g ∧ (0 ≤ x.l ∧ x.l ≤ 5)
  · rw [if_pos hc, inO_set h hc.2]
    constructor
    · rintro (rfl | h)
      · exact .inr ⟨hc.1, hc.2, rfl⟩
      · exact .inl h
    · rintro (h | ⟨_, _, rfl⟩)
      · exact .inr h
      · exact .inl rfl
  · rw [if_neg hc]
    exact ⟨.inl, fun h => h.elim id fun h => absurd ⟨h.1, h.2.1⟩ hc⟩
theorem count_le (m : List Bool) : m.count true ≤ m.length := List.count_le_length
theorem sstep_count {m : List Bool} {x : Inc} (h : m.length = 6) : (sstep m x = m ∧ (inO m x.g → (0 ≤ x.l ∧ x.l ≤ 5) → inO m x.l)) ∨ m.count true < (sstep m x).count true := by
  by_cases hc : inO m x.g ∧ (0 ≤ x.l ∧ x.l ≤ 5)
  · by_cases hm : inO m x.l
    · refine .inl ⟨?_, fun _ _ => hm⟩
      unfold sstep
      rw [if_pos hc]
      have h2 := hm.2
      rw [List.getD_eq_getElem?_getD, List.getElem?_eq_getElem (by omega)] at h2
      have h3 : m[x.l.toNat]'(by omega) = true := h2
      rw [← h3]
      exact List.set_getElem_self _
    · refine .inr ?_
      have h1 := (not_inO hc.2).1 hm
      have h2 := count_set (o := m) (j := x.l.toNat) (by omega) h1
      have e : sstep m x = m.set x.l.toNat true := by unfold sstep; rw [if_pos hc]
      rw [e]
      have c1 : ∀ m : List Bool, m.count true + m.count false = m.length := by
        intro m
        induction m with
        | nil => rfl
        | cons b m ih => cases b <;> simp [List.count_cons] <;> omega
      have a1 := c1 m
      have a2 := c1 (m.set x.l.toNat true)
      rw [List.length_set] at a2
      omega
  · refine .inl ⟨by unfold sstep; rw [if_neg hc], fun h1 h2 => absurd ⟨h1, h2⟩ hc⟩
def closed (l : List Inc) (m : List Bool) : Prop := ∀ x ∈ l, inO m x.g → (0 ≤ x.l ∧ x.l ≤ 5) → inO m x.l
theorem fold_count : ∀ (l : List Inc) {m : List Bool}, m.length = 6 → (l.foldl sstep m = m ∧ closed l m) ∨ m.count true < (l.foldl sstep m).count true
  | [], m, h => .inl ⟨rfl, fun x hx => absurd hx (by simp)⟩
  | x :: l, m, h => by
    rw [List.foldl_cons]
    have h2 := fold_count l (sstep_len (x := x) h)
    rcases sstep_count (x := x) h with ⟨e, hcl⟩ | hlt
    · rw [e] at h2 ⊢
      rcases h2 with ⟨e2, hcl2⟩ | h2
      · refine .inl ⟨e2, fun y hy => ?_⟩
        rcases List.mem_cons.1 hy with rfl | hy
        · exact hcl
        · exact hcl2 y hy
      · exact .inr h2
    · refine .inr ?_
      rcases h2 with ⟨e2, _⟩ | h2
      · rw [e2]; exact hlt
      · omega
theorem passes_fix (l : List Inc) {m : List Bool} (h : pass l m = m) : ∀ n, passes l n m = m
  | 0 => rfl
  | n + 1 => by rw [passes, h]; exact passes_fix l h n
theorem passes_closed (l : List Inc) : ∀ n (m : List Bool), m.length = 6 → 6 < n + m.count true → closed l (passes l n m)
  | 0, m, h, hn => by have := count_le m; omega
  | n + 1, m, h, hn => by
    rcases fold_count l h with ⟨e, hc⟩ | hlt
    · rw [passes_fix l e]; exact hc
    · rw [passes]
      exact passes_closed l n _ (fold_slen l h) (by unfold pass; omega)
theorem fold_in : ∀ (l l' : List Inc) (role : Int) {m : List Bool}, (∀ x ∈ l', x ∈ l) → m.length = 6 → (∀ b, inO m b → b = role ∨ Rch l role b) → ∀ b, inO (l'.foldl sstep m) b → b = role ∨ Rch l role b
  | l, [], role, m, hl, h, hs, b, hb => hs b hb
  | l, x :: l', role, m, hl, h, hs, b, hb => by
    refine fold_in l l' role (fun y hy => hl y (by simp [hy])) (sstep_len (x := x) h) (fun b hb => ?_) b hb
    rcases (inO_sstep h b).1 hb with hb | ⟨h1, h2, rfl⟩
    · exact hs b hb
    · rcases hs _ h1 with h3 | h3
      · exact .inr (.one x (hl x (by simp)) h3 h2)
      · exact .inr (.more x (hl x (by simp)) h3 h2)
theorem fold_mono : ∀ (l : List Inc) {m : List Bool}, m.length = 6 → ∀ b, inO m b → inO (l.foldl sstep m) b
  | [], m, h, b, hb => hb
  | x :: l, m, h, b, hb => fold_mono l (sstep_len (x := x) h) b ((inO_sstep h b).2 (.inl hb))
theorem passes_len (l : List Inc) : ∀ n {m : List Bool}, m.length = 6 → (passes l n m).length = 6
  | 0, _, h => h
  | n + 1, _, h => passes_len l n (fold_slen l h)
theorem passes_in (l : List Inc) (role : Int) : ∀ n {m : List Bool}, m.length = 6 → (∀ b, inO m b → b = role ∨ Rch l role b) → ∀ b, inO (passes l n m) b → b = role ∨ Rch l role b
  | 0, _, _, hs, b, hb => hs b hb
  | n + 1, _, h, hs, b, hb => passes_in l role n (fold_slen l h) (fold_in l l role (fun _ h => h) h hs) b hb
theorem passes_mono (l : List Inc) : ∀ n {m : List Bool}, m.length = 6 → ∀ b, inO m b → inO (passes l n m) b
  | 0, _, _, b, hb => hb
  | n + 1, _, h, b, hb => passes_mono l n (fold_slen l h) b (fold_mono l h b hb)
def start (role : Int) : List Bool := (List.replicate 6 false).set role.toNat true
theorem start_len (role : Int) : (start role).length = 6 := by simp [start]
theorem start_in {role : Int} (hr : 0 ≤ role ∧ role ≤ 5) (b : Int) : inO (start role) b ↔ b = role := by
  unfold start
  rw [inO_set (by simp) hr]
  refine ⟨fun h => h.elim id fun h => ?_, .inl⟩
  have := h.2
  rw [List.getD_eq_getElem?_getD, List.getElem?_replicate] at this
  split at this <;> simp at this
theorem final_iff (l : List Inc) {role : Int} (hr : 0 ≤ role ∧ role ≤ 5) (b : Int) : inO (passes l 6 (start role)) b ↔ b = role ∨ Rch l role b := by
  have hc := passes_closed l 6 (start role) (start_len role) (by
    have := count_set (o := List.replicate 6 false) (j := role.toNat) (by simp; omega) (by rw [List.getD_eq_getElem?_getD, List.getElem?_replicate]; split <;> rfl)
    have c1 : ∀ m : List Bool, m.count true + m.count false = m.length := by
      intro m
      induction m with
      | nil => rfl
      | cons b m ih => cases b <;> simp [List.count_cons] <;> omega
    have a2 := c1 (start role)
    rw [start_len] at a2
    have a3 : (List.replicate 6 false).count false = 6 := by decide
    unfold start at a2 ⊢
    omega)
  have h0 := passes_mono l 6 (start_len role) role ((start_in hr role).2 rfl)
  refine ⟨passes_in l role 6 (start_len role) (fun b hb => .inl ((start_in hr b).1 hb)) b, ?_⟩
  rintro (rfl | h)
  · exact h0
  · induction h with
    | one x hx e hr2 => exact hc x hx (e ▸ h0) hr2
    | more x hx _ hr2 ih => exact hc x hx ih hr2

theorem marked_eq (m : List Bool) (i : Nat) : marked m i = m.getD i false := by rw [List.getD_eq_getElem?_getD]; rfl
theorem sstep_eq (m : List Bool) (x : Inc) : pairStep m x = sstep m x := by
  have e : (inB 0 5 x.g && (inB 0 5 x.l && marked m x.g.toNat)) = true ↔ (inO m x.g ∧ (0 ≤ x.l ∧ x.l ≤ 5)) := by
    unfold inO
    rw [← marked_eq, Bool.and_eq_true, Bool.and_eq_true, inB_iff, inB_iff]
    exact ⟨fun h => ⟨⟨h.1, h.2.2⟩, h.2.1⟩, fun h => ⟨h.1.1, h.2, h.1.2⟩⟩
  unfold pairStep sstep
  by_cases h : (inB 0 5 x.g && (inB 0 5 x.l && marked m x.g.toNat)) = true
  · rw [if_pos h, if_pos (e.1 h)]
  · rw [if_neg h, if_neg (fun h' => h (e.2 h'))]
theorem foldl_sstep (l : List Inc) : ∀ m, l.foldl pairStep m = l.foldl sstep m := by
  induction l with
  | nil => intro m; rfl
  | cons x l ih => intro m; rw [List.foldl_cons, List.foldl_cons, sstep_eq, ih]
theorem passes_succ (l : List Inc) : ∀ n m, passes l (n + 1) m = pass l (passes l n m)
  | 0, m => rfl
  | n + 1, m => by rw [passes, passes_succ l n (pass l m)]; rfl
theorem rounds_passes (l : List Inc) : ∀ n m, rounds l n m = passes l n m
  | 0, m => rfl
  | n + 1, m => by
    rw [passes_succ, rounds, rounds_passes l n m]
    exact foldl_sstep l _
/-- The role itself or what is reached from it. -/
def orOwn (o : List Bool) (r : Int) (i : Nat) : Bool := marked o i || decide ((i : Int) = r)
def listedUpto (o : List Bool) (r : Int) (n : Nat) : List Int := ((List.range n).filter (orOwn o r)).map Int.ofNat
theorem listedUpto_succ (o : List Bool) (r : Int) (n : Nat) : listedUpto o r (n + 1) = if orOwn o r n then listedUpto o r n ++ [(n : Int)] else listedUpto o r n := by
  unfold listedUpto
  rw [List.range_succ, List.filter_append, List.map_append]
  cases h : orOwn o r n <;> simp [h]
theorem listedUpto_len (o : List Bool) (r : Int) (n : Nat) : (listedUpto o r n).length ≤ n := by
  unfold listedUpto
  rw [List.length_map]
  exact Nat.le_trans (List.length_filter_le _ _) (by simp)
theorem inO_marked {m : List Bool} {i : Nat} (hi : i < 6) : inO m (i : Int) ↔ marked m i = true := by
  unfold inO
  rw [marked_eq]
  simp
  omega
theorem listed_under (l : List Inc) {r : Int} (hr : inB 0 5 r = true) : listedUpto (reached l r) r 6 = under l r := by
  rw [under, if_pos hr]
  unfold listedUpto markedUpto
  congr 1
  refine List.filter_congr fun i hi => ?_
  rw [List.mem_range] at hi
  have h1 := final_iff l (inB_iff.1 hr) (i : Int)
  have h2 := reached_iff l r (i : Int)
  have e : marksUnder l r = passes l 6 (start r) := rounds_passes l 6 _
  rw [e, Bool.eq_iff_iff, orOwn, Bool.or_eq_true, decide_eq_true_eq, ← inO_marked hi, ← inO_marked hi, h1, h2]
  exact Or.comm
end Go.AI.Rl
/- What the search of impl.below finds. -/
namespace Go.AI
open Go Go.Proofs Rl
attribute [local congr] bind_left map_left guardOn_congr condOn_congr
attribute [local simp] call_pure start run_seq run_region run_draw arrange run_cond run_block exec_ret exec_exit exec_skip ite_bind ite_map opsW_nil opsW_cons opsW_guard doOp_move doOp_assign doOp_pick doOp_load doOp_nilCheck doOp_fieldAddr doOp_indexAddr doOp_index doOp_slice doOp_binOp doOp_not doOp_neg doOp_convert doOp_extract doOp_build doOp_makeFunc doOp_len doOp_min doOp_max doOp_field doOp_alloc doOp_box doOp_store doOp_buildSlice doOp_makeSlice doOp_append doOp_call cutMk ret tidy sift closed okCell cellsT headOf
set_option maxRecDepth 100000
set_option maxHeartbeats 4000000
set_option linter.unusedSimpArgs false
set_option linter.unusedVariables false
/-- The search's rounds: what is reached, what was done, what is still to do. -/
def bf (l : List Inc) (r : Int) : Nat → List Bool × List Int × List Int
  | 0 => (none6, [], [r])
  | i + 1 => match bf l r i with
    | (o, d, []) => (o, d, [])
    | (o, d, a :: t) => ((l.foldl (bstep a) (o, t)).1, d ++ [a], (l.foldl (bstep a) (o, t)).2)
theorem bf_succ {l : List Inc} {r : Int} {i : Nat} {o : List Bool} {d t : List Int} {a : Int} (h : bf l r i = (o, d, a :: t)) : bf l r (i + 1) = ((l.foldl (bstep a) (o, t)).1, d ++ [a], (l.foldl (bstep a) (o, t)).2) := by rw [bf, h]
theorem bf_len (l : List Inc) (r : Int) (i : Nat) : (bf l r i).1.length = 6 := by
  induction i with
  | zero => rfl
  | succ i ih =>
    rw [bf]
    split
    · rename_i o d h; rw [h] at ih; exact ih
    · rename_i o d a t h; rw [h] at ih; exact fold_len l ih
def room (s : List Bool × List Int) : Nat := s.1.count false + s.2.length
theorem bstep_room {a : Int} {s : List Bool × List Int} {x : Inc} (h : s.1.length = 6) : room (bstep a s x) ≤ room s := by
  unfold bstep
  split
  · rename_i hh
    simp only [hit, Bool.and_eq_true, decide_eq_true_eq, Bool.not_eq_true'] at hh
    have := count_set (o := s.1) (j := x.l.toNat) (by omega) hh.2
    simp only [room, List.length_append, List.length_cons, List.length_nil]
    omega
  · exact Nat.le_refl _
theorem fold_room {a : Int} (l : List Inc) {s : List Bool × List Int} (h : s.1.length = 6) : room (l.foldl (bstep a) s) ≤ room s := by
  induction l generalizing s with
  | nil => exact Nat.le_refl _
  | cons x l ih => exact Nat.le_trans (ih (bstep_len h)) (bstep_room h)
theorem bf_room (l : List Inc) (r : Int) (i : Nat) : (bf l r i).1.count false + ((bf l r i).2.1 ++ (bf l r i).2.2).length ≤ 7 := by
  induction i with
  | zero => simp [bf, none6]
  | succ i ih =>
    have hl := bf_len l r i
    rw [bf]
    split
    · rename_i o d h; rw [h] at ih; exact ih
    · rename_i o d a t h
      rw [h] at ih hl
      have := fold_room (a := a) l (s := (o, t)) hl
      simp only [room, List.length_append, List.length_cons, List.length_nil] at this ih ⊢
      omega
theorem bf_mu (l : List Inc) (r : Int) : ∀ i, (∀ j, j < i → (bf l r j).2.2 ≠ []) → mu (bf l r i).1 (bf l r i).2.2 + i ≤ 13
  | 0, _ => by simp [bf, mu, none6]
  | i + 1, h => by
    have ih := bf_mu l r i fun j hj => h j (by omega)
    have hl := bf_len l r i
    have hn := h i (by omega)
    rw [bf]
    split
    · rename_i o d h; rw [h] at hn; exact absurd rfl hn
    · rename_i o d a t h
      rw [h] at ih hl
      have := fold_mu (a := a) l (s := (o, t)) hl
      simp only [mu, List.length_cons] at this ih ⊢
      omega
theorem bf_bfs (l : List Inc) (r : Int) : ∀ i, i ≤ 13 → bfs l (13 - i) (bf l r i).1 (bf l r i).2.2 = reached l r
  | 0, _ => rfl
  | i + 1, h => by
    have ih := bf_bfs l r i (by omega)
    rw [show 13 - i = (13 - (i + 1)) + 1 by omega] at ih
    rw [bf]
    split
    · rename_i o d h; rw [h] at ih; rw [← ih]; cases 13 - (i + 1) <;> rfl
    · rename_i o d a t h; rw [h] at ih; exact ih
theorem bf_end (l : List Inc) (r : Int) : ∃ d, bf l r (stop (fun i => (bf l r i).2.2.isEmpty) 13) = (reached l r, d, []) := by
  have hle := stop_le (fun i => (bf l r i).2.2.isEmpty) 13
  have hbef := fun j hj => stop_before (p := fun i => (bf l r i).2.2.isEmpty) (n := 13) (j := j) hj
  have hhit := stop_hit (p := fun i => (bf l r i).2.2.isEmpty) (n := 13)
  generalize stop (fun i => (bf l r i).2.2.isEmpty) 13 = k at *
  have hm := bf_mu l r k fun j hj h => by have := hbef j hj; simp [h] at this
  have hb := bf_bfs l r k hle
  have ht : (bf l r k).2.2 = [] := by
    by_cases h : k < 13
    · have := hhit h
      simpa using this
    · refine List.eq_nil_of_length_eq_zero ?_
      unfold mu at hm
      omega
  refine ⟨(bf l r k).2.1, ?_⟩
  rw [ht] at hb
  have e : (bf l r k).1 = reached l r := by rw [← hb]; cases 13 - k <;> rfl
  rw [← e, ← ht]
theorem six {o : List Bool} (h : o.length = 6) : ∃ b0 b1 b2 b3 b4 b5, o = [b0, b1, b2, b3, b4, b5] := by
  match o, h with
  | [b0, b1, b2, b3, b4, b5], _ => exact ⟨b0, b1, b2, b3, b4, b5, rfl⟩
def bools (o : List Bool) : List PV := o.map PV.bool
theorem bools_len (o : List Bool) : (bools o).length = o.length := by simp [bools]
theorem bools_get {o : List Bool} {i : Nat} (h : i < o.length) : (bools o)[i]? = some (.bool o[i]) := by simp [bools, h]
theorem bools_at {o : List Bool} {i : Nat} (h : i < (bools o).length) : (bools o)[i] = .bool (o[i]'(by simpa [bools] using h)) := by simp [bools]
theorem bools_load {o : List Bool} {i : Nat} (h : i < o.length) : ((bools o).drop i).take 1 = [.bool o[i]] := by
  have h' : i < (bools o).length := by rwa [bools_len]
  rw [List.drop_eq_getElem_cons h', List.take_succ_cons, List.take_zero, bools_at]
theorem bools_set (o : List Bool) (i : Nat) (b : Bool) : (bools o).set i (.bool b) = bools (o.set i b) := by simp [bools, List.map_set]
theorem bools_store {o : List Bool} {i : Nat} (h : i < o.length) (b : Bool) : (bools o).take i ++ .bool b :: (bools o).drop (i + 1) = bools (o.set i b) := by
  have h' : i < (bools o).length := by rwa [bools_len]
  rw [← bools_set, List.set_eq_take_append_cons_drop, if_pos h']
theorem bools_all (st : St) (o : List Bool) : (bools o).all (okCell st) = true := by
  rw [List.all_eq_true]
  intro x hx
  obtain ⟨b, _, rfl⟩ := List.mem_map.1 hx
  rfl
theorem bools_flat (o : List Bool) : ((bools o).flatMap fun c => refKey c ++ eptrKey c) = [] := by
  rw [List.flatMap_eq_nil_iff]
  intro x hx
  obtain ⟨b, _, rfl⟩ := List.mem_map.1 hx
  rfl
theorem bools_ptr (o : List Bool) : (bools o).flatMap ptrKey = [] := by
  rw [List.flatMap_eq_nil_iff]
  intro x hx
  obtain ⟨b, _, rfl⟩ := List.mem_map.1 hx
  rfl
theorem bools_plain (o : List Bool) : (bools o).all plainCell = true := by
  rw [List.all_eq_true]
  intro x hx
  obtain ⟨b, _, rfl⟩ := List.mem_map.1 hx
  rfl
theorem bools_take (own : Bool) (ρ : Nat → Nat) : ∀ (o : List Bool) (k : Nat), takeL C own ρ k (bools o) = (bools o, [], [])
  | [], k => rfl
  | b :: o, k => by
    show takeL C own ρ k (.bool b :: bools o) = _
    rw [takeL_cons, bools_take own ρ o]
    rfl
theorem isRole_c (r : Int) : call C 234 [.int .i64 r] [] [] = some ([.bool (inB 0 5 r)], [], []) := by
  rw [call_pure C (f := 234) (fn := Tryz.f234) (C_P ▸ Tryz.func234) rfl rfl]
  simp (config := { maxSteps := 10000000 }) [C_ty, ty3, K106, C_own, own, InRange_c] <;> (first | omega | (simp_all; done) | skip)
theorem below_c (l : List Inc) (r : Int) (hl : l.length < 9223372036854775807) : call C 235 [.arr 2 (l.map Inc.c), .int .i64 r] [] [] = some ([.agg (bools (reached l r))], [], []) := by
  have e1 : List.replicate 6 (PV.bool false) = bools none6 := rfl
  rw [call_pure C (f := 235) (fn := Tryz.f235) (C_P ▸ Tryz.func235) rfl rfl]
  simp (config := { maxSteps := 10000000 }) [C_ty, ty3, ty4, ty32, ty34, ty130, ty232, K234, C_own, own, C_live, C_keep, keep, live235_3, live235_7, e1, -List.reduceReplicate] <;> (first | omega | (simp_all; done) | skip)
  rw [loop_stop C 235 (J := fun i => ⟨[(6, .ref 768 (bf l r i).2.1.length (bf l r i).2.2.length ((bf l r i).2.1 ++ (bf l r i).2.2).length), (5, .ptr 320 0), (4, .ptr 256 0), (0, .arr 2 (l.map Inc.c))], [(320, bools (bf l r i).1), (256, bools none6)], [(768, ⟨false, ((bf l r i).2.1 ++ (bf l r i).2.2).length, 3, intRow ((bf l r i).2.1 ++ (bf l r i).2.2)⟩)]⟩) (n := 13) (p := fun i => (bf l r i).2.2.isEmpty) (h0 := ?h0) (step := ?step)]
  case h0 => simp (config := { maxSteps := 10000000 }) [C_ty, ty3, ty4, ty32, ty34, ty130, ty232, K234, C_own, own, C_live, C_keep, keep, live235_3, live235_7, bf, intRow, bools_all, bools_flat] <;> (first | omega | (simp_all; done) | skip)
  case step =>
    intro i hi hp
    have h6 := bf_len l r i
    have hrm := bf_room l r i
    obtain ⟨a, t', ht⟩ : ∃ a t', (bf l r i).2.2 = a :: t' := by
      cases h : (bf l r i).2.2 with
      | nil => rw [h] at hp; simp at hp
      | cons a t' => exact ⟨a, t', rfl⟩
    obtain ⟨o, d, t, hb⟩ : ∃ o d t, bf l r i = (o, d, t) := ⟨_, _, _, rfl⟩
    rw [hb] at h6 hrm ht
    simp only at h6 hrm ht
    subst ht
    have hs := bf_succ hb
    rw [hs, hb]
    clear hs hb hp
    have eq1 : intRow (d ++ a :: t') = intRow d ++ ([.int .i64 a] :: intRow t') := by simp [intRow]
    have eq2 : (intRow d).length = d.length := by simp [intRow]
    have h1 : (1 : Int) ≤ (t'.length : Int) + 1 := by omega
    simp (config := { maxSteps := 10000000 }) [C_ty, ty3, ty4, ty32, ty34, ty130, ty232, K234, C_own, own, C_live, C_keep, keep, live235_3, live235_7, eq1, eq2, h1, bools_all, bools_flat] <;> (first | omega | (simp_all; done) | skip)
    rw [loop_to C 235 (J := fun k => ⟨[(23, .int .i64 k), (22, .int .i64 l.length), (21, .arr 2 (l.map Inc.c)), (7, .int .i64 a), (6, .ref 768 (d.length + 1) ((l.take k).foldl (bstep a) (o, t')).2.length (d ++ a :: ((l.take k).foldl (bstep a) (o, t')).2).length), (5, .ptr 320 0), (4, .ptr 256 0), (0, .arr 2 (l.map Inc.c))], [(320, bools ((l.take k).foldl (bstep a) (o, t')).1), (256, bools none6)], [(768, ⟨false, (d ++ a :: ((l.take k).foldl (bstep a) (o, t')).2).length, 3, intRow (d ++ a :: ((l.take k).foldl (bstep a) (o, t')).2)⟩)]⟩) (n := l.length) (h0 := ?h0) (step := ?step)]
    case h0 => simp (config := { maxSteps := 10000000 }) [C_ty, ty3, ty4, ty32, ty34, ty130, ty232, K234, C_own, own, C_live, C_keep, keep, live235_3, live235_7, eq1, eq2, bools_all, bools_flat] <;> (first | omega | (simp_all; done) | skip)
    case step =>
      intro k hk
      have hw := wrap_nat (i := k) (by omega)
      have hft := foldl_take (bstep a) (o, t') l k hk
      have hfl := fold_len (a := a) (l.take k) (s := (o, t')) h6
      have hfr := fold_room (a := a) (l.take k) (s := (o, t')) h6
      have hfs := bstep_len (a := a) (x := l[k]) hfl
      rw [hft]
      clear hft
      obtain ⟨o', t'', hot⟩ : ∃ o' t'', (l.take k).foldl (bstep a) (o, t') = (o', t'') := ⟨_, _, rfl⟩
      rw [hot] at hfl hfr hfs ⊢
      simp only [room, List.length_append, List.length_cons] at hfl hfr hrm
      obtain ⟨g, h, hxk⟩ : ∃ g h, l[k] = ⟨g, h⟩ := ⟨_, _, rfl⟩
      rw [hxk] at hfs ⊢
      by_cases c1 : g = a
      · by_cases c2 : inB 0 5 h = true
        · have b2 := inB_iff.1 c2
          have n2 : h.toNat < 6 := by omega
          have n3 : h < 6 := by omega
          have hm : o'[h.toNat]?.getD false = o'[h.toNat] := by rw [List.getElem?_eq_getElem (by omega)]; rfl
          have eq3 : intRow (d ++ a :: t'') = intRow d ++ ([.int .i64 a] :: intRow t'') := by simp [intRow]
          have eq4 : intRow (d ++ a :: (t'' ++ [h])) = intRow d ++ ([.int .i64 a] :: (intRow t'' ++ [[.int .i64 h]])) := by simp [intRow]
          have eq5 : (intRow t'').length = t''.length := by simp [intRow]
          cases hv : o'[h.toNat] with
          | true =>
            have hst : bstep a (o', t'') ⟨g, h⟩ = (o', t'') := by simp [bstep, hit, hm, hv]
            rw [hst]
            simp (config := { maxSteps := 10000000 }) [C_ty, ty3, ty4, ty32, ty34, ty130, ty232, K234, C_own, own, C_live, C_keep, keep, live235_3, live235_7, hk, hw, inc_at, Inc.c, hxk, isRole_c, c1, c2, b2, n2, n3, hv, bools_len, bools_load, hfl, bools_all, bools_flat] <;> (first | omega | (simp_all; done) | skip)
          | false =>
            have hst : bstep a (o', t'') ⟨g, h⟩ = (o'.set h.toNat true, t'' ++ [h]) := by simp [bstep, hit, hm, hv, c1, b2]
            have z1 : d.length + 1 + t''.length = d.length + (t''.length + 1) := by omega
            have z2 : (d.length + (t''.length + 1) + 1) * 8 ≤ 140737488355328 := by omega
            rw [hst]
            simp (config := { maxSteps := 10000000 }) [C_ty, ty3, ty4, ty32, ty34, ty130, ty232, K234, C_own, own, C_live, C_keep, keep, live235_3, live235_7, hk, hw, inc_at, Inc.c, hxk, isRole_c, c1, c2, b2, n2, n3, hv, z1, z2, bools_len, bools_load, bools_store, hfl, bools_all, bools_flat, eq2, eq3, eq4, eq5] <;> (first | omega | (simp_all; done) | skip)
        · have hst : bstep a (o', t'') ⟨g, h⟩ = (o', t'') := by simp [bstep, hit, ← inB_iff, c2]
          rw [hst]
          simp (config := { maxSteps := 10000000 }) [C_ty, ty3, ty4, ty32, ty34, ty130, ty232, K234, C_own, own, C_live, C_keep, keep, live235_3, live235_7, hk, hw, inc_at, Inc.c, hxk, isRole_c, c1, c2, bools_all, bools_flat] <;> (first | omega | (simp_all; done) | skip)
      · have hst : bstep a (o', t'') ⟨g, h⟩ = (o', t'') := by simp [bstep, hit, c1]
        rw [hst]
        simp (config := { maxSteps := 10000000 }) [C_ty, ty3, ty4, ty32, ty34, ty130, ty232, K234, C_own, own, C_live, C_keep, keep, live235_3, live235_7, hk, hw, inc_at, Inc.c, hxk, isRole_c, c1, bools_all, bools_flat] <;> (first | omega | (simp_all; done) | skip)
    rw [List.take_length]
    simp (config := { maxSteps := 10000000 }) [C_ty, ty3, ty4, ty32, ty34, ty130, ty232, K234, C_own, own, C_live, C_keep, keep, live235_3, live235_7, bools_all, bools_flat] <;> (first | omega | (simp_all; done) | skip)
    refine ⟨_, ⟨_, ⟨rfl, rfl⟩, rfl⟩, ?_⟩
    simp (config := { maxSteps := 10000000 }) [C_ty, ty3, ty4, ty32, ty34, ty130, ty232, K234, C_own, own, C_live, C_keep, keep, live235_3, live235_7, bools_all, bools_flat] <;> (first | omega | (simp_all; done) | skip)
  obtain ⟨d, hd⟩ := bf_end l r
  rw [hd]
  obtain ⟨b0, b1, b2, b3, b4, b5, hb⟩ := six (reached_len l r)
  have e2 : bools [b0, b1, b2, b3, b4, b5] = [.bool b0, .bool b1, .bool b2, .bool b3, .bool b4, .bool b5] := rfl
  have e3 : bools none6 = [.bool false, .bool false, .bool false, .bool false, .bool false, .bool false] := rfl
  rw [hb, e2, e3]
  simp (config := { maxSteps := 10000000 }) [C_ty, ty3, ty4, ty32, ty34, ty130, ty232, K234, C_own, own, C_live, C_keep, keep, live235_3, live235_7] <;> (first | omega | (simp_all; done) | skip)
end Go.AI
/- Roles of a person, as they are computed; who has a role. -/
namespace Go.AI
open Go Go.Proofs Rl
attribute [local congr] bind_left map_left guardOn_congr condOn_congr
attribute [local simp] call_pure start run_seq run_region run_draw arrange run_cond run_block exec_ret exec_exit exec_skip ite_bind ite_map opsW_nil opsW_cons opsW_guard doOp_move doOp_assign doOp_pick doOp_load doOp_nilCheck doOp_fieldAddr doOp_indexAddr doOp_index doOp_slice doOp_binOp doOp_not doOp_neg doOp_convert doOp_extract doOp_build doOp_makeFunc doOp_len doOp_min doOp_max doOp_field doOp_alloc doOp_box doOp_store doOp_buildSlice doOp_makeSlice doOp_append doOp_call cutMk ret tidy sift closed okCell cellsT headOf
set_option maxRecDepth 100000
set_option maxHeartbeats 4000000
set_option linter.unusedSimpArgs false
set_option linter.unusedVariables false
theorem RolesUnder_c (l : List Inc) (r : Int) (hl : l.length < 9223372036854775807) : call C 226 [.arr 2 (l.map Inc.c), .int .i64 r] [] [] = some ([.oarr 3 (intRow (under l r))], [], []) := by
  by_cases hr : inB 0 5 r = false
  · rw [call_pure C (f := 226) (fn := Tryz.f226) (C_P ▸ Tryz.func226) rfl rfl]
    simp (config := { maxSteps := 10000000 }) [C_ty, ty3, ty4, ty32, ty34, ty130, ty232, K234, K235, C_own, own, C_live, C_keep, keep, live226_5, isRole_c, hr, under, intRow] <;> (first | omega | (simp_all; done) | skip)
  have hr : inB 0 5 r = true := by simpa using hr
  have hb := below_c l r hl
  have hu := listed_under l hr
  rw [← hu]
  have h6 := reached_len l r
  generalize reached l r = o at *
  rw [call_pure C (f := 226) (fn := Tryz.f226) (C_P ▸ Tryz.func226) rfl rfl]
  simp (config := { maxSteps := 10000000 }) [C_ty, ty3, ty4, ty32, ty34, ty130, ty232, K234, K235, C_own, own, C_live, C_keep, keep, live226_5, isRole_c, hr, hb, bools_take, bools_all, bools_flat, bools_ptr, bools_plain] <;> (first | omega | (simp_all; done) | skip)
  rw [loop_to C 226 (J := fun k => ⟨[(16, .int .i64 k), (15, .agg (bools o)), (5, .ref 512 0 (listedUpto o r k).length (listedUpto o r k).length), (1, .int .i64 r)], [], [(512, ⟨false, (listedUpto o r k).length, 3, intRow (listedUpto o r k)⟩)]⟩) (n := 6) (h0 := ?h0) (step := ?step)]
  case h0 => simp (config := { maxSteps := 10000000 }) [C_ty, ty3, ty4, ty32, ty34, ty130, ty232, K234, K235, C_own, own, C_live, C_keep, keep, live226_5, listedUpto, intRow, bools_take, bools_all, bools_flat, bools_ptr, bools_plain] <;> (first | omega | (simp_all; done) | skip)
  case step =>
    intro k hk
    have hw := wrap_nat (i := k) (by omega)
    have hml := listedUpto_len o r k
    have hm := marked_at (m := o) (i := k) (by omega)
    have hk6 : (k : Int) < 6 := by omega
    have hk5 : (k : Int) ≤ 5 := by omega
    have hsz : ((listedUpto o r k).length + 1) * 8 ≤ 140737488355328 := by omega
    have hi : intRow [(k : Int)] = [[.int .i64 (k : Int)]] := rfl
    rw [listedUpto_succ]
    by_cases hkr : (k : Int) = r
    · subst hkr
      by_cases h0_ : marked o k = true
      · simp (config := { maxSteps := 10000000 }) [C_ty, ty3, ty4, ty32, ty34, ty130, ty232, K234, K235, C_own, own, C_live, C_keep, keep, live226_5, indexIn, hk, hk6, hw, h6, bools_len, bools_load, bools_take, bools_all, bools_flat, bools_ptr, bools_plain, hm, hsz, intRow_append, hi , orOwn, hk5, h0_] <;> (first | omega | (simp_all; done) | skip)
      · simp (config := { maxSteps := 10000000 }) [C_ty, ty3, ty4, ty32, ty34, ty130, ty232, K234, K235, C_own, own, C_live, C_keep, keep, live226_5, indexIn, hk, hk6, hw, h6, bools_len, bools_load, bools_take, bools_all, bools_flat, bools_ptr, bools_plain, hm, hsz, intRow_append, hi , orOwn, hk5, h0_] <;> (first | omega | (simp_all; done) | skip)
    · by_cases h0_ : marked o k = true
      · simp (config := { maxSteps := 10000000 }) [C_ty, ty3, ty4, ty32, ty34, ty130, ty232, K234, K235, C_own, own, C_live, C_keep, keep, live226_5, indexIn, hk, hk6, hw, h6, bools_len, bools_load, bools_take, bools_all, bools_flat, bools_ptr, bools_plain, hm, hsz, intRow_append, hi , orOwn, hk5, hkr, h0_] <;> (first | omega | (simp_all; done) | skip)
      · simp (config := { maxSteps := 10000000 }) [C_ty, ty3, ty4, ty32, ty34, ty130, ty232, K234, K235, C_own, own, C_live, C_keep, keep, live226_5, indexIn, hk, hk6, hw, h6, bools_len, bools_load, bools_take, bools_all, bools_flat, bools_ptr, bools_plain, hm, hsz, intRow_append, hi , orOwn, hk5, hkr, h0_] <;> (first | omega | (simp_all; done) | skip)
  simp (config := { maxSteps := 10000000 }) [C_ty, ty3, ty4, ty32, ty34, ty130, ty232, K234, K235, C_own, own, C_live, C_keep, keep, live226_5] <;> (first | omega | (simp_all; done) | skip)
def rolesIn (l : List Inc) (p n age : Int) (f : Fa) : List Int := if hasRoleFact p n age f then under l f.v else []
def rolesAll (l : List Inc) (p n age : Int) (s : List Fa) : List Int := s.foldl (fun acc f => acc ++ rolesIn l p n age f) []
theorem rolesAll_len (l : List Inc) (p n age : Int) (s : List Fa) : ∀ acc : List Int, (s.foldl (fun acc f => acc ++ rolesIn l p n age f) acc).length ≤ acc.length + 6 * s.length := by
  induction s with
  | nil => intro acc; simp
  | cons f s ih =>
    intro acc
    have h1 : (rolesIn l p n age f).length ≤ 6 := by
      unfold rolesIn
      split
      · exact under_len _ _
      · simp
    have h2 := ih (acc ++ rolesIn l p n age f)
    rw [List.foldl_cons]
    simp only [List.length_append, List.length_cons] at h2 ⊢
    omega
theorem RolesOf_c (l : List Inc) (s : List Fa) (p n age : Int) (hl : l.length < 9223372036854775807) (hs : s.length ≤ 1048576) : call C 212 [.arr 2 (l.map Inc.c), .arr 6 (s.map Fa.c), .int .i64 p, .int .i64 n, .int .i64 age] [] [] = some ([if (Lib.compact (sorted (rolesAll l p n age s))).length = (rolesAll l p n age s).length then .oarr 3 (intRow (Lib.compact (sorted (rolesAll l p n age s)))) else .arr 1 (intRow (Lib.compact (sorted (rolesAll l p n age s))))], [], []) := by
  rw [call_pure C (f := 212) (fn := Tryz.f212) (C_P ▸ Tryz.func212) rfl rfl]
  simp (config := { maxSteps := 10000000 }) [C_ty, ty3, ty32, ty34, ty36, ty130, ty134, K184, K226, C_own, own, C_io, io, C_live, C_keep, keep, live212_3] <;> (first | omega | (simp_all; done) | skip)
  rw [loop_to C 212 (J := fun i => ⟨[(17, .int .i64 i), (16, .int .i64 s.length), (15, .arr 6 (s.map Fa.c)), (11, .ref 896 0 (rolesAll l p n age (s.take i)).length (rolesAll l p n age (s.take i)).length), (4, .int .i64 age), (3, .int .i64 n), (2, .int .i64 p), (0, .arr 2 (l.map Inc.c))], [], [(896, ⟨false, (rolesAll l p n age (s.take i)).length, 3, intRow (rolesAll l p n age (s.take i))⟩)]⟩) (n := s.length) (h0 := ?h0) (step := ?step)]
  case h0 => simp (config := { maxSteps := 10000000 }) [C_ty, ty3, ty32, ty34, ty36, ty130, ty134, K184, K226, C_own, own, C_io, io, C_live, C_keep, keep, live212_3, rolesAll, intRow] <;> (first | omega | (simp_all; done) | skip)
  case step =>
    intro i hi
    have hw := wrap_nat (i := i) (by omega)
    have hft : rolesAll l p n age (s.take (i + 1)) = rolesAll l p n age (s.take i) ++ rolesIn l p n age s[i] := foldl_take (fun acc f => acc ++ rolesIn l p n age f) [] s i hi
    have hal : (rolesAll l p n age (s.take i)).length ≤ [].length + 6 * (s.take i).length := rolesAll_len l p n age (s.take i) []
    rw [hft]
    simp only [List.length_nil, List.length_take] at hal
    generalize rolesAll l p n age (s.take i) = L at *
    obtain ⟨f, hf⟩ : ∃ f, s[i] = f := ⟨_, rfl⟩
    rw [hf]
    obtain ⟨k', s', v', i', a', u'⟩ := f
    by_cases hF : hasRoleFact p n age ⟨k', s', v', i', a', u'⟩ = false
    · have hr : rolesIn l p n age ⟨k', s', v', i', a', u'⟩ = [] := by unfold rolesIn; rw [hF]; rfl
      simp only [hasRoleFact] at hF
      by_cases h0_ : k' = 1
      · by_cases h1_ : s' = p
        · by_cases h2_ : holdsAt ⟨1, p, v', i', a', u'⟩ n age = true
          · simp (config := { maxSteps := 10000000 }) [C_ty, ty3, ty32, ty34, ty36, ty130, ty134, K184, K226, C_own, own, C_io, io, C_live, C_keep, keep, live212_3, hi, hw, hf, Fa.c, hr, HoldsAt_v, h0_, h1_, h2_] <;> (first | omega | (simp_all; done) | skip)
          · simp (config := { maxSteps := 10000000 }) [C_ty, ty3, ty32, ty34, ty36, ty130, ty134, K184, K226, C_own, own, C_io, io, C_live, C_keep, keep, live212_3, hi, hw, hf, Fa.c, hr, HoldsAt_v, h0_, h1_, h2_] <;> (first | omega | (simp_all; done) | skip)
        · simp (config := { maxSteps := 10000000 }) [C_ty, ty3, ty32, ty34, ty36, ty130, ty134, K184, K226, C_own, own, C_io, io, C_live, C_keep, keep, live212_3, hi, hw, hf, Fa.c, hr, HoldsAt_v, h0_, h1_] <;> (first | omega | (simp_all; done) | skip)
      · simp (config := { maxSteps := 10000000 }) [C_ty, ty3, ty32, ty34, ty36, ty130, ty134, K184, K226, C_own, own, C_io, io, C_live, C_keep, keep, live212_3, hi, hw, hf, Fa.c, hr, HoldsAt_v, h0_] <;> (first | omega | (simp_all; done) | skip)
    · have hF : hasRoleFact p n age ⟨k', s', v', i', a', u'⟩ = true := by simpa using hF
      have hr : rolesIn l p n age ⟨k', s', v', i', a', u'⟩ = under l v' := by unfold rolesIn; rw [hF]; rfl
      have hG := hF
      simp only [hasRoleFact, Bool.and_eq_true, decide_eq_true_eq] at hG
      obtain ⟨⟨rfl, rfl⟩, hH⟩ := hG
      have hu := RolesUnder_c l v' hl
      have hul := under_len l v'
      have hsz : (L.length + (under l v').length) * 8 ≤ 140737488355328 := by omega
      have hul2 : (intRow (under l v')).length = (under l v').length := by simp [intRow]
      rw [hr]
      generalize under l v' = u at *
      simp (config := { maxSteps := 10000000 }) [C_ty, ty3, ty32, ty34, ty36, ty130, ty134, K184, K226, C_own, own, C_io, io, C_live, C_keep, keep, live212_3, hi, hw, hf, Fa.c, HoldsAt_v, hH, hu, hsz, hul2, intRow_append] <;> (first | omega | (simp_all; done) | skip)
  simp (config := { maxSteps := 10000000 }) [C_ty, ty3, ty32, ty34, ty36, ty130, ty134, K184, K226, C_own, own, C_io, io, C_live, C_keep, keep, live212_3, List.take_length] <;> (first | omega | (simp_all; done) | skip)
  have hal : (rolesAll l p n age s).length ≤ [].length + 6 * s.length := rolesAll_len l p n age s []
  generalize rolesAll l p n age s = L at *
  simp only [List.length_nil] at hal
  have hso := Sets.sorted_len L
  have hco := Sets.compact_len (sorted L)
  rw [callK_one (C := C) (g := 227) (B := ⟨false, L.length, 3, intRow L⟩) (B' := ⟨false, L.length, 3, intRow (sorted L)⟩) rfl (hm := ?hm) rfl rfl (Sort_c L _ rfl (by omega))]
  case hm => simp (config := { maxSteps := 10000000 }) [C_ty, ty3, ty32, ty34, ty36, ty130, ty134, K184, K226, C_own, own, C_io, io, C_live, C_keep, keep, live212_3] <;> (first | omega | (simp_all; done) | skip)
  simp (config := { maxSteps := 10000000 }) [C_ty, ty3, ty32, ty34, ty36, ty130, ty134, K184, K226, C_own, own, C_io, io, C_live, C_keep, keep, live212_3] <;> (first | omega | (simp_all; done) | skip)
  rw [callK_part (C := C) (g := 228) (B := ⟨false, L.length, 3, intRow (sorted L)⟩) (B' := _) rfl (hm := ?hm) rfl rfl (Compact_c (sorted L) _ hso.symm)]
  case hm => simp (config := { maxSteps := 10000000 }) [C_ty, ty3, ty32, ty34, ty36, ty130, ty134, K184, K226, C_own, own, C_io, io, C_live, C_keep, keep, live212_3] <;> (first | omega | (simp_all; done) | skip)
  simp (config := { maxSteps := 10000000 }) [C_ty, ty3, ty32, ty34, ty36, ty130, ty134, K184, K226, C_own, own, C_io, io, C_live, C_keep, keep, live212_3] <;> (first | omega | (simp_all; done) | skip)
  refine ⟨by omega, ?_⟩
  have hz : (sorted L).length = (Lib.compact (sorted L)).length + ((sorted L).length - (Lib.compact (sorted L)).length) := by omega
  have hil : (intRow (Lib.compact (sorted L))).length = (Lib.compact (sorted L)).length := by simp [intRow]
  split
  · rename_i he
    rw [show (sorted L).length - (Lib.compact (sorted L)).length = 0 by omega, List.replicate_zero, List.append_nil]
  · rw [intRow_append, List.take_append_of_le_length (by omega), ← hil, List.take_length]
theorem set_marked {m : List Bool} (hm : m.length = 6) {x : Int} (hx : 0 ≤ x ∧ x < 6) (i : Nat) : marked (m.set x.toNat true) i = true ↔ marked m i = true ∨ (i : Int) = x := by
  unfold marked
  rw [List.getElem?_set]
  split
  · rename_i h
    subst h
    rw [if_pos (by omega)]
    simp
    exact .inr (by omega)
  · rename_i h
    exact ⟨.inl, fun h' => h'.elim id fun h' => absurd (by omega) h⟩
theorem setAll_marked : ∀ (u : List Int) {m : List Bool} (_ : m.length = 6) (_ : ∀ x ∈ u, 0 ≤ x ∧ x < 6) (i : Nat), marked (setAll m u) i = true ↔ marked m i = true ∨ (i : Int) ∈ u
  | [], m, hm, hu, i => by simp [setAll]
  | x :: u, m, hm, hu, i => by
    show marked (setAll (m.set x.toNat true) u) i = true ↔ _
    rw [setAll_marked u (by simpa using hm) (fun y hy => hu y (List.mem_cons_of_mem _ hy)), set_marked hm (hu x List.mem_cons_self), List.mem_cons, or_assoc]
theorem rolesIn_mem {l : List Inc} {p n age x : Int} {f : Fa} (h : x ∈ rolesIn l p n age f) : 0 ≤ x ∧ x < 6 := by
  unfold rolesIn at h
  split at h
  · exact under_mem h
  · cases h
theorem roleStep_marked {l : List Inc} {p n age : Int} {m : List Bool} (hm : m.length = 6) (f : Fa) (i : Nat) : marked (roleStep l p n age m f) i = true ↔ marked m i = true ∨ (i : Int) ∈ rolesIn l p n age f := by
  unfold roleStep rolesIn
  split
  · exact setAll_marked _ hm (fun x hx => under_mem hx) i
  · simp
theorem fold_marked (l : List Inc) (p n age : Int) : ∀ (s : List Fa) {m : List Bool} {acc : List Int} (_ : m.length = 6) (_ : ∀ i : Nat, marked m i = true ↔ (i : Int) ∈ acc) (i : Nat), marked (s.foldl (roleStep l p n age) m) i = true ↔ (i : Int) ∈ s.foldl (fun acc f => acc ++ rolesIn l p n age f) acc
  | [], m, acc, hm, h, i => h i
  | f :: s, m, acc, hm, h, i => by
    rw [List.foldl_cons, List.foldl_cons]
    refine fold_marked l p n age s (m := roleStep l p n age m f) ?_ (fun j => ?_) i
    · have := roleStep_len l p n age [f] m
      exact this.trans hm
    · rw [roleStep_marked hm, h j, List.mem_append]
theorem all_in (l : List Inc) (p n age : Int) : ∀ (s : List Fa) {acc : List Int} (_ : ∀ x ∈ acc, 0 ≤ x ∧ x < 6), ∀ x ∈ s.foldl (fun acc f => acc ++ rolesIn l p n age f) acc, 0 ≤ x ∧ x < 6
  | [], acc, h, x, hx => h x hx
  | f :: s, acc, h, x, hx => by
    refine all_in l p n age s (acc := acc ++ rolesIn l p n age f) (fun y hy => ?_) x hx
    rcases List.mem_append.1 hy with hy | hy
    · exact h y hy
    · exact rolesIn_mem hy
/-- The roles of a person. -/
def rolesOf (l : List Inc) (s : List Fa) (p n age : Int) : List Int := markedUpto (s.foldl (roleStep l p n age) (List.replicate 6 false)) 6
theorem roles_eq (l : List Inc) (s : List Fa) (p n age : Int) : Lib.compact (sorted (rolesAll l p n age s)) = rolesOf l s p n age := by
  have h1 := fold_marked l p n age s (m := List.replicate 6 false) (acc := []) (by simp) (fun i => by
    unfold marked
    rw [List.getElem?_replicate]
    split <;> simp)
  have h2 := all_in l p n age s (acc := []) (fun x hx => absurd hx (by simp))
  refine Sets.both_eq _ _ ?_ fun x => ?_
  · unfold rolesOf markedUpto
    rw [List.range_eq_range']
    exact Sets.range_asc _ _ _
  · unfold rolesOf markedUpto
    rw [List.mem_map]
    constructor
    · intro hx
      have hb := h2 x hx
      refine ⟨x.toNat, List.mem_filter.2 ⟨List.mem_range.2 (by omega), (h1 x.toNat).2 ?_⟩, by show ((x.toNat : Nat) : Int) = x; omega⟩
      rw [show ((x.toNat : Nat) : Int) = x by omega]
      exact hx
    · rintro ⟨i, hi, rfl⟩
      exact (h1 i).1 (List.mem_filter.1 hi).2
def hasRole (l : List Inc) (s : List Fa) (p r n age : Int) : Bool := (rolesOf l s p n age).contains r
theorem rolesOf_len (l : List Inc) (s : List Fa) (p n age : Int) : (rolesOf l s p n age).length ≤ 6 := markedUpto_len _ _
theorem HasRole_c (l : List Inc) (s : List Fa) (p r n age : Int) (hl : l.length < 9223372036854775807) (hs : s.length ≤ 1048576) : call C 179 [.arr 2 (l.map Inc.c), .arr 6 (s.map Fa.c), .int .i64 p, .int .i64 r, .int .i64 n, .int .i64 age] [] [] = some ([.bool (hasRole l s p r n age)], [], []) := by
  have hR := RolesOf_c l s p n age hl hs
  rw [roles_eq] at hR
  have hlen := rolesOf_len l s p n age
  have hC := Contains_c (rolesOf l s p n age) r (by omega)
  by_cases hz : (rolesOf l s p n age).length = (rolesAll l p n age s).length
  · rw [if_pos hz] at hR
    rw [call_pure C (f := 179) (fn := Tryz.f179) (C_P ▸ Tryz.func179) rfl rfl]
    simp (config := { maxSteps := 10000000 }) [C_ty, ty3, ty32, ty34, ty36, ty130, ty134, K122, K212, C_own, own, hR, hC, hasRole] <;> (first | omega | (simp_all; done) | skip)
  · rw [if_neg hz] at hR
    rw [call_pure C (f := 179) (fn := Tryz.f179) (C_P ▸ Tryz.func179) rfl rfl]
    simp (config := { maxSteps := 10000000 }) [C_ty, ty3, ty32, ty34, ty36, ty130, ty134, K122, K212, C_own, own, hR, hC, hasRole] <;> (first | omega | (simp_all; done) | skip)
theorem sHasRole_c (l : List Inc) (s : List Fa) (p r n age : Int) (hl : l.length < 9223372036854775807) (hs : s.length ≤ 1048576) : call C 193 [.arr 2 (l.map Inc.c), .arr 6 (s.map Fa.c), .int .i64 p, .int .i64 r, .int .i64 n, .int .i64 age] [] [] = some ([.bool (hasRole l s p r n age)], [], []) := by
  have hR := sRolesOf_c l s p n age hl (by omega)
  have hlen := rolesOf_len l s p n age
  have hC := l13Has_c (rolesOf l s p n age) r (by omega)
  change _ = some ([PV.oarr _ (intRow (rolesOf l s p n age))], [], []) at hR
  rw [call_pure C (f := 193) (fn := Tryz.f193) (C_P ▸ Tryz.func193) rfl rfl]
  simp (config := { maxSteps := 10000000 }) [C_ty, ty3, ty32, ty34, ty36, ty130, ty134, K156, K219, C_own, own, hR, hC, hasRole] <;> (first | omega | (simp_all; done) | skip)
end Go.AI
/- Conditions, evaluated. -/
namespace Go.AI
open Go Go.Proofs Rl
attribute [local congr] bind_left map_left guardOn_congr condOn_congr
attribute [local simp] call_pure start run_seq run_region run_draw arrange run_cond run_block exec_ret exec_exit exec_skip ite_bind ite_map opsW_nil opsW_cons opsW_guard doOp_move doOp_assign doOp_pick doOp_load doOp_nilCheck doOp_fieldAddr doOp_indexAddr doOp_index doOp_slice doOp_binOp doOp_not doOp_neg doOp_convert doOp_extract doOp_build doOp_makeFunc doOp_len doOp_min doOp_max doOp_field doOp_alloc doOp_box doOp_store doOp_buildSlice doOp_makeSlice doOp_append doOp_call cutMk ret tidy sift closed okCell cellsT headOf
set_option maxRecDepth 100000
set_option maxHeartbeats 4000000
set_option linter.unusedSimpArgs false
set_option linter.unusedVariables false
/-- Whether a leaf holds. -/
def leafB (l : List Inc) (s : List Fa) (q : Rq) (t : Tr) : Bool :=
  if t.op = 1 then true else if t.op = 2 then hasRole l s q.p t.a q.n t.b else if t.op = 3 then decide (0 ≤ findFact s 2 q.p q.d q.n t.b) else
  if t.op = 4 then decide (t.a ≤ bestOf s 3 q.d q.n t.b) else if t.op = 5 then decide (t.a ≤ bestOf s 4 q.g q.n t.b) else if t.op = 6 then decide (q.n ≤ t.a) else false
theorem findFact_ge (l : List Fa) (k s v n age : Int) : -1 ≤ findFact l k s v n age := by
  unfold findFact placeOf
  split <;> omega
theorem LeafHolds_c (l : List Inc) (s : List Fa) (q : Rq) (t : Tr) (hl : l.length < 9223372036854775807) (hs : s.length ≤ 1048576) : call C 121 [incs l, fas s, .agg t.c, .agg q.c] [] [] = some ([.bool (leafB l s q t)], [], []) := by
  have h2 := HasRole_c l s q.p t.a q.n t.b hl hs
  have h3 := FindFact_c s 2 q.p q.d q.n t.b (by omega)
  have h4 := BestValue_c s 3 q.d q.n t.b (by omega)
  have h5 := BestValue_c s 4 q.g q.n t.b (by omega)
  have h6 := findFact_ge s 2 q.p q.d q.n t.b
  have h7 : decide (findFact s 2 q.p q.d q.n t.b = -1) = !decide (0 ≤ findFact s 2 q.p q.d q.n t.b) := by rw [← decide_not]; exact decide_eq_decide.2 (by omega)
  simp only [incs, fas, Rq.c, leafB]
  rw [call_pure C (f := 121) (fn := Tryz.f121) (C_P ▸ Tryz.func121) rfl rfl]
  by_cases h0_ : t.op = 1
  · simp (config := { maxSteps := 10000000 }) [C_ty, ty3, ty34, ty36, ty42, ty59, ty61, ty130, ty134, K179, K180, K181, C_own, own, C_order, order, Tr.c_eq t, h2, h3, h4, h5, h7, h0_] <;> (first | omega | (simp_all; done) | skip)
  · by_cases h1_ : t.op = 2
    · simp (config := { maxSteps := 10000000 }) [C_ty, ty3, ty34, ty36, ty42, ty59, ty61, ty130, ty134, K179, K180, K181, C_own, own, C_order, order, Tr.c_eq t, h2, h3, h4, h5, h7, h0_, h1_] <;> (first | omega | (simp_all; done) | skip)
    · by_cases h2_ : t.op = 3
      · simp (config := { maxSteps := 10000000 }) [C_ty, ty3, ty34, ty36, ty42, ty59, ty61, ty130, ty134, K179, K180, K181, C_own, own, C_order, order, Tr.c_eq t, h2, h3, h4, h5, h7, h0_, h1_, h2_] <;> (first | omega | (simp_all; done) | skip)
      · by_cases h3_ : t.op = 4
        · simp (config := { maxSteps := 10000000 }) [C_ty, ty3, ty34, ty36, ty42, ty59, ty61, ty130, ty134, K179, K180, K181, C_own, own, C_order, order, Tr.c_eq t, h2, h3, h4, h5, h7, h0_, h1_, h2_, h3_] <;> (first | omega | (simp_all; done) | skip)
        · by_cases h4_ : t.op = 5
          · simp (config := { maxSteps := 10000000 }) [C_ty, ty3, ty34, ty36, ty42, ty59, ty61, ty130, ty134, K179, K180, K181, C_own, own, C_order, order, Tr.c_eq t, h2, h3, h4, h5, h7, h0_, h1_, h2_, h3_, h4_] <;> (first | omega | (simp_all; done) | skip)
          · by_cases h5_ : t.op = 6
            · simp (config := { maxSteps := 10000000 }) [C_ty, ty3, ty34, ty36, ty42, ty59, ty61, ty130, ty134, K179, K180, K181, C_own, own, C_order, order, Tr.c_eq t, h2, h3, h4, h5, h7, h0_, h1_, h2_, h3_, h4_, h5_] <;> (first | omega | (simp_all; done) | skip)
            · simp (config := { maxSteps := 10000000 }) [C_ty, ty3, ty34, ty36, ty42, ty59, ty61, ty130, ty134, K179, K180, K181, C_own, own, C_order, order, Tr.c_eq t, h2, h3, h4, h5, h7, h0_, h1_, h2_, h3_, h4_, h5_] <;> (first | omega | (simp_all; done) | skip)
theorem sLeafHolds_c (l : List Inc) (s : List Fa) (q : Rq) (t : Tr) (hl : l.length < 9223372036854775807) (hs : s.length ≤ 1048576) : call C 148 [incs l, fas s, .agg t.c, .agg q.c] [] [] = some ([.bool (leafB l s q t)], [], []) := by
  have h2 := sHasRole_c l s q.p t.a q.n t.b hl hs
  have h3 := sFindFact_c s 2 q.p q.d q.n t.b (by omega)
  have h4 := sBestValue_c s 3 q.d q.n t.b (by omega)
  have h5 := sBestValue_c s 4 q.g q.n t.b (by omega)
  simp only [incs, fas, Rq.c, leafB]
  rw [call_pure C (f := 148) (fn := Tryz.f148) (C_P ▸ Tryz.func148) rfl rfl]
  by_cases h0_ : t.op = 1
  · simp (config := { maxSteps := 10000000 }) [C_ty, ty3, ty34, ty36, ty42, ty59, ty61, ty130, ty134, K193, K194, K195, C_own, own, C_order, order, Tr.c_eq t, h2, h3, h4, h5, h0_] <;> (first | omega | (simp_all; done) | skip)
  · by_cases h1_ : t.op = 2
    · simp (config := { maxSteps := 10000000 }) [C_ty, ty3, ty34, ty36, ty42, ty59, ty61, ty130, ty134, K193, K194, K195, C_own, own, C_order, order, Tr.c_eq t, h2, h3, h4, h5, h0_, h1_] <;> (first | omega | (simp_all; done) | skip)
    · by_cases h2_ : t.op = 3
      · simp (config := { maxSteps := 10000000 }) [C_ty, ty3, ty34, ty36, ty42, ty59, ty61, ty130, ty134, K193, K194, K195, C_own, own, C_order, order, Tr.c_eq t, h2, h3, h4, h5, h0_, h1_, h2_] <;> (first | omega | (simp_all; done) | skip)
      · by_cases h3_ : t.op = 4
        · simp (config := { maxSteps := 10000000 }) [C_ty, ty3, ty34, ty36, ty42, ty59, ty61, ty130, ty134, K193, K194, K195, C_own, own, C_order, order, Tr.c_eq t, h2, h3, h4, h5, h0_, h1_, h2_, h3_] <;> (first | omega | (simp_all; done) | skip)
        · by_cases h4_ : t.op = 5
          · simp (config := { maxSteps := 10000000 }) [C_ty, ty3, ty34, ty36, ty42, ty59, ty61, ty130, ty134, K193, K194, K195, C_own, own, C_order, order, Tr.c_eq t, h2, h3, h4, h5, h0_, h1_, h2_, h3_, h4_] <;> (first | omega | (simp_all; done) | skip)
          · by_cases h5_ : t.op = 6
            · simp (config := { maxSteps := 10000000 }) [C_ty, ty3, ty34, ty36, ty42, ty59, ty61, ty130, ty134, K193, K194, K195, C_own, own, C_order, order, Tr.c_eq t, h2, h3, h4, h5, h0_, h1_, h2_, h3_, h4_, h5_] <;> (first | omega | (simp_all; done) | skip)
            · simp (config := { maxSteps := 10000000 }) [C_ty, ty3, ty34, ty36, ty42, ty59, ty61, ty130, ty134, K193, K194, K195, C_own, own, C_order, order, Tr.c_eq t, h2, h3, h4, h5, h0_, h1_, h2_, h3_, h4_, h5_] <;> (first | omega | (simp_all; done) | skip)
theorem EvalCond_c (l : List Inc) (s : List Fa) (t : Tr) (q : Rq) (hl : l.length < 9223372036854775807) (hs : s.length ≤ 1048576) (ht : t.size < 4611686018427387904) : call C 47 [incs l, fas s, .agg t.c, .agg q.c] [] [] = some ([.bool (t.isCond && t.eval (leafB l s q))], [], []) := by
  have hcl : ∀ x : Tr, call C 120 (.agg x.c :: [.cptr [incs l] 0, .cptr [fas s] 0, .cptr q.c 0]) [] [] = some ([.bool (leafB l s q x)], [], []) := by
    intro x
    have hc := LeafHolds_c l s q x hl hs
    simp only [incs, fas, Rq.c, Tr.c_eq] at hc ⊢
    rw [call_pure C (f := 120) (fn := Tryz.f120) (C_P ▸ Tryz.func120) rfl rfl]
    simp (config := { maxSteps := 10000000 }) [C_ty, ty3, ty34, ty36, ty42, ty59, ty61, ty130, ty134, K121, C_own, own, hc] <;> (first | omega | (simp_all; done) | skip)
  have hE := evalWith_c 120 [.cptr [incs l] 0, .cptr [fas s] 0, .cptr q.c 0] (leafB l s q) rfl (fun c hc => by simp at hc; rcases hc with rfl | rfl | rfl <;> exact ⟨_, _, rfl⟩) hcl t
  have hC := IsCond_c t ht
  by_cases h : t.isCond = true
  · have hN : t.areN = true := by unfold Tr.isCond at h; simp at h; exact h.2
    have hE := hE hN
    rw [h] at hC
    simp only [incs, fas, Rq.c, Tr.c_eq] at hC hE ⊢
    rw [call_pure C (f := 47) (fn := Tryz.f47) (C_P ▸ Tryz.func47) rfl rfl]
    simp (config := { maxSteps := 10000000 }) [C_ty, ty3, ty34, ty36, ty42, ty59, ty61, ty81, ty130, ty134, K51, K119, K120, C_own, own, hC, hE, h] <;> (first | omega | (simp_all; done) | skip)
  · have h : t.isCond = false := by simpa using h
    rw [h] at hC
    simp only [incs, fas, Rq.c, Tr.c_eq] at hC ⊢
    rw [call_pure C (f := 47) (fn := Tryz.f47) (C_P ▸ Tryz.func47) rfl rfl]
    simp (config := { maxSteps := 10000000 }) [C_ty, ty3, ty34, ty36, ty42, ty59, ty61, ty81, ty130, ty134, K51, K119, K120, C_own, own, hC, h] <;> (first | omega | (simp_all; done) | skip)
theorem sEvalCond_c (l : List Inc) (s : List Fa) (t : Tr) (q : Rq) (hl : l.length < 9223372036854775807) (hs : s.length ≤ 1048576) (ht : t.size < 4611686018427387904) : call C 100 [incs l, fas s, .agg t.c, .agg q.c] [] [] = some ([.bool (t.isCond && t.eval (leafB l s q))], [], []) := by
  have hE := l18Eval_c l s q (leafB l s q) (fun x => sLeafHolds_c l s q x hl hs) t
  have hC := sIsCond_c t ht
  by_cases h : t.isCond = true
  · have hN : t.areN = true := by unfold Tr.isCond at h; simp at h; exact h.2
    have hE := hE hN
    rw [h] at hC
    simp only [incs, fas, Rq.c, Tr.c_eq] at hC hE ⊢
    rw [call_pure C (f := 100) (fn := Tryz.f100) (C_P ▸ Tryz.func100) rfl rfl]
    simp (config := { maxSteps := 10000000 }) [C_ty, ty3, ty34, ty36, ty42, ty59, ty61, ty130, ty134, K168, K169, C_own, own, hC, hE, h] <;> (first | omega | (simp_all; done) | skip)
  · have h : t.isCond = false := by simpa using h
    rw [h] at hC
    simp only [incs, fas, Rq.c, Tr.c_eq] at hC ⊢
    rw [call_pure C (f := 100) (fn := Tryz.f100) (C_P ▸ Tryz.func100) rfl rfl]
    simp (config := { maxSteps := 10000000 }) [C_ty, ty3, ty34, ty36, ty42, ty59, ty61, ty130, ty134, K168, K169, C_own, own, hC, h] <;> (first | omega | (simp_all; done) | skip)
end Go.AI
/- Copies of what is handed in. -/
namespace Go.AI
open Go Go.Proofs Rl
attribute [local congr] bind_left map_left guardOn_congr condOn_congr
attribute [local simp] call_pure start run_seq run_region run_draw arrange run_cond run_block exec_ret exec_exit exec_skip ite_bind ite_map opsW_nil opsW_cons opsW_guard doOp_move doOp_assign doOp_pick doOp_load doOp_nilCheck doOp_fieldAddr doOp_indexAddr doOp_index doOp_slice doOp_binOp doOp_not doOp_neg doOp_convert doOp_extract doOp_build doOp_makeFunc doOp_len doOp_min doOp_max doOp_field doOp_alloc doOp_box doOp_store doOp_buildSlice doOp_makeSlice doOp_append doOp_call cutMk ret tidy sift closed okCell cellsT headOf
set_option maxRecDepth 100000
set_option maxHeartbeats 4000000
set_option linter.unusedSimpArgs false
set_option linter.unusedVariables false
theorem toFact_c (x : Fa) : call C 87 [.agg x.c] [] [] = some ([.agg x.c], [], []) := by
  rw [call_pure C (f := 87) (fn := Tryz.f87) (C_P ▸ Tryz.func87) rfl rfl]
  simp (config := { maxSteps := 10000000 }) [C_ty, ty3, ty134, ty136, Fa.c] <;> (first | omega | (simp_all; done) | skip)
theorem eqFact_c (x : Fa) : call C 91 [.agg x.c, .agg x.c] [] [] = some ([.bool true], [], []) := by
  rw [call_pure C (f := 91) (fn := Tryz.f91) (C_P ▸ Tryz.func91) rfl rfl]
  simp (config := { maxSteps := 10000000 }) [C_ty, ty3, ty134, Fa.c] <;> (first | omega | (simp_all; done) | skip)
theorem szFactS_c (l : List Fa) (n : Int) (hn : 0 ≤ n) (hn2 : n < 4611686018427387904) (hl : l.length < 9223372036854775808) : call C 16 [.arr 6 (l.map Fa.c), .int .i64 n] [] [] = some ([.int .i64 (if n < l.length then -1 else n - l.length)], [], []) := by
  have hw : IntKind.i64.wrap (n - l.length) = n - l.length := wrap_small (by omega) (by omega)
  rw [call_pure C (f := 16) (fn := Tryz.f16) (C_P ▸ Tryz.func16) rfl rfl]
  by_cases h0_ : n < l.length
  · simp (config := { maxSteps := 10000000 }) [C_ty, ty3, ty23, ty136, hw, h0_] <;> (first | omega | (simp_all; done) | skip)
  · simp (config := { maxSteps := 10000000 }) [C_ty, ty3, ty23, ty136, hw, h0_] <;> (first | omega | (simp_all; done) | skip)
theorem eqFactS_c (l : List Fa) (hl : l.length < 9223372036854775807) : call C 26 [.arr 6 (l.map Fa.c), .arr 6 (l.map Fa.c)] [] [] = some ([.bool true], [], []) := by
  rw [call_pure C (f := 26) (fn := Tryz.f26) (C_P ▸ Tryz.func26) rfl rfl]
  simp (config := { maxSteps := 10000000 }) [C_ty, ty3, ty4, ty36, ty134, K91, C_own, own, C_order, order, C_live, C_keep, keep, live26_4] <;> (first | omega | (simp_all; done) | skip)
  rw [loop_to C 26 (J := fun i => ⟨[(5, .int .i64 i), (1, .arr 6 (l.map Fa.c)), (0, .arr 6 (l.map Fa.c))], [], []⟩) (n := l.length) (h0 := ?h0) (step := ?step)]
  case h0 => simp (config := { maxSteps := 10000000 }) [C_ty, ty3, ty4, ty36, ty134, K91, C_own, own, C_order, order, C_live, C_keep, keep, live26_4] <;> (first | omega | (simp_all; done) | skip)
  case step =>
    intro i hi
    have hw := wrap_nat (i := i) (by omega)
    have hc := eqFact_c l[i]
    simp only [Fa.c] at hc
    simp (config := { maxSteps := 10000000 }) [C_ty, ty3, ty4, ty36, ty134, K91, C_own, own, C_order, order, C_live, C_keep, keep, live26_4, hi, hw, Fa.c, hc] <;> (first | omega | (simp_all; done) | skip)
  simp (config := { maxSteps := 10000000 }) [C_ty, ty3, ty4, ty36, ty134, K91, C_own, own, C_order, order, C_live, C_keep, keep, live26_4] <;> (first | omega | (simp_all; done) | skip)
theorem toFactS_c (l : List Fa) (hl : l.length ≤ 1048576) : call C 20 [.arr 6 (l.map Fa.c)] [] [] = some ([.oarr 134 (l.map Fa.c)], [], []) := by
  have hsz : (l.length : Int) * 48 ≤ 281474976710656 := by omega
  rw [call_pure C (f := 20) (fn := Tryz.f20) (C_P ▸ Tryz.func20) rfl rfl]
  simp (config := { maxSteps := 10000000 }) [C_ty, ty3, ty23, ty36, ty134, ty136, K87, C_own, own, C_live, C_keep, keep, live20_3, hsz] <;> (first | omega | (simp_all; done) | skip)
  rw [loop_to C 20 (J := fun i => ⟨[(4, .int .i64 i), (3, .ref 448 0 l.length l.length), (0, .arr 6 (l.map Fa.c))], [], [(448, ⟨false, l.length, 134, part (l.map Fa.c) (Fa.c ⟨0, 0, 0, 0, 0, 0⟩) i⟩)]⟩) (n := l.length) (h0 := ?h0) (step := ?step)]
  case h0 => simp (config := { maxSteps := 10000000 }) [C_ty, ty3, ty23, ty36, ty134, ty136, K87, C_own, own, C_live, C_keep, keep, live20_3, part_zero, Fa.c] <;> (first | omega | (simp_all; done) | skip)
  case step =>
    intro i hi
    have hw := wrap_nat (i := i) (by omega)
    have hc := toFact_c l[i]
    have hi' : i < (l.map Fa.c).length := by simpa using hi
    have hp := part_set (l.map Fa.c) (Fa.c ⟨0, 0, 0, 0, 0, 0⟩) hi' (v := Fa.c l[i]) (by simp)
    have hg := part_at (l.map Fa.c) (Fa.c ⟨0, 0, 0, 0, 0, 0⟩) hi'
    have hpl := part_len (l.map Fa.c) (Fa.c ⟨0, 0, 0, 0, 0, 0⟩) (Nat.le_of_lt hi')
    rw [List.length_map] at hpl
    simp only [Fa.c] at hc hp hg hpl
    simp (config := { maxSteps := 10000000 }) [C_ty, ty3, ty23, ty36, ty134, ty136, K87, C_own, own, C_live, C_keep, keep, live20_3, hi, hw, Fa.c, hc, hp, hg, hpl] <;> (first | omega | (simp_all; done) | skip)
  have hall := part_all (l.map Fa.c) (Fa.c ⟨0, 0, 0, 0, 0, 0⟩)
  rw [List.length_map] at hall
  rw [hall]
  simp (config := { maxSteps := 10000000 }) [C_ty, ty3, ty23, ty36, ty134, ty136, K87, C_own, own, C_live, C_keep, keep, live20_3] <;> (first | omega | (simp_all; done) | skip)
theorem toIncludes_c (x : Inc) : call C 86 [.agg x.c] [] [] = some ([.agg x.c], [], []) := by
  rw [call_pure C (f := 86) (fn := Tryz.f86) (C_P ▸ Tryz.func86) rfl rfl]
  simp (config := { maxSteps := 10000000 }) [C_ty, ty3, ty130, ty132, Inc.c] <;> (first | omega | (simp_all; done) | skip)
theorem eqIncludes_c (x : Inc) : call C 90 [.agg x.c, .agg x.c] [] [] = some ([.bool true], [], []) := by
  rw [call_pure C (f := 90) (fn := Tryz.f90) (C_P ▸ Tryz.func90) rfl rfl]
  simp (config := { maxSteps := 10000000 }) [C_ty, ty3, ty130, Inc.c] <;> (first | omega | (simp_all; done) | skip)
theorem szIncludesS_c (l : List Inc) (n : Int) (hn : 0 ≤ n) (hn2 : n < 4611686018427387904) (hl : l.length < 9223372036854775808) : call C 15 [.arr 2 (l.map Inc.c), .int .i64 n] [] [] = some ([.int .i64 (if n < l.length then -1 else n - l.length)], [], []) := by
  have hw : IntKind.i64.wrap (n - l.length) = n - l.length := wrap_small (by omega) (by omega)
  rw [call_pure C (f := 15) (fn := Tryz.f15) (C_P ▸ Tryz.func15) rfl rfl]
  by_cases h0_ : n < l.length
  · simp (config := { maxSteps := 10000000 }) [C_ty, ty3, ty22, ty132, hw, h0_] <;> (first | omega | (simp_all; done) | skip)
  · simp (config := { maxSteps := 10000000 }) [C_ty, ty3, ty22, ty132, hw, h0_] <;> (first | omega | (simp_all; done) | skip)
theorem eqIncludesS_c (l : List Inc) (hl : l.length < 9223372036854775807) : call C 25 [.arr 2 (l.map Inc.c), .arr 2 (l.map Inc.c)] [] [] = some ([.bool true], [], []) := by
  rw [call_pure C (f := 25) (fn := Tryz.f25) (C_P ▸ Tryz.func25) rfl rfl]
  simp (config := { maxSteps := 10000000 }) [C_ty, ty3, ty4, ty34, ty130, K90, C_own, own, C_order, order, C_live, C_keep, keep, live25_4] <;> (first | omega | (simp_all; done) | skip)
  rw [loop_to C 25 (J := fun i => ⟨[(5, .int .i64 i), (1, .arr 2 (l.map Inc.c)), (0, .arr 2 (l.map Inc.c))], [], []⟩) (n := l.length) (h0 := ?h0) (step := ?step)]
  case h0 => simp (config := { maxSteps := 10000000 }) [C_ty, ty3, ty4, ty34, ty130, K90, C_own, own, C_order, order, C_live, C_keep, keep, live25_4] <;> (first | omega | (simp_all; done) | skip)
  case step =>
    intro i hi
    have hw := wrap_nat (i := i) (by omega)
    have hc := eqIncludes_c l[i]
    simp only [Inc.c] at hc
    simp (config := { maxSteps := 10000000 }) [C_ty, ty3, ty4, ty34, ty130, K90, C_own, own, C_order, order, C_live, C_keep, keep, live25_4, hi, hw, Inc.c, hc] <;> (first | omega | (simp_all; done) | skip)
  simp (config := { maxSteps := 10000000 }) [C_ty, ty3, ty4, ty34, ty130, K90, C_own, own, C_order, order, C_live, C_keep, keep, live25_4] <;> (first | omega | (simp_all; done) | skip)
theorem toIncludesS_c (l : List Inc) (hl : l.length ≤ 1048576) : call C 19 [.arr 2 (l.map Inc.c)] [] [] = some ([.oarr 130 (l.map Inc.c)], [], []) := by
  have hsz : (l.length : Int) * 16 ≤ 281474976710656 := by omega
  rw [call_pure C (f := 19) (fn := Tryz.f19) (C_P ▸ Tryz.func19) rfl rfl]
  simp (config := { maxSteps := 10000000 }) [C_ty, ty3, ty22, ty34, ty130, ty132, K86, C_own, own, C_live, C_keep, keep, live19_3, hsz] <;> (first | omega | (simp_all; done) | skip)
  rw [loop_to C 19 (J := fun i => ⟨[(4, .int .i64 i), (3, .ref 448 0 l.length l.length), (0, .arr 2 (l.map Inc.c))], [], [(448, ⟨false, l.length, 130, part (l.map Inc.c) (Inc.c ⟨0, 0⟩) i⟩)]⟩) (n := l.length) (h0 := ?h0) (step := ?step)]
  case h0 => simp (config := { maxSteps := 10000000 }) [C_ty, ty3, ty22, ty34, ty130, ty132, K86, C_own, own, C_live, C_keep, keep, live19_3, part_zero, Inc.c] <;> (first | omega | (simp_all; done) | skip)
  case step =>
    intro i hi
    have hw := wrap_nat (i := i) (by omega)
    have hc := toIncludes_c l[i]
    have hi' : i < (l.map Inc.c).length := by simpa using hi
    have hp := part_set (l.map Inc.c) (Inc.c ⟨0, 0⟩) hi' (v := Inc.c l[i]) (by simp)
    have hg := part_at (l.map Inc.c) (Inc.c ⟨0, 0⟩) hi'
    have hpl := part_len (l.map Inc.c) (Inc.c ⟨0, 0⟩) (Nat.le_of_lt hi')
    rw [List.length_map] at hpl
    simp only [Inc.c] at hc hp hg hpl
    simp (config := { maxSteps := 10000000 }) [C_ty, ty3, ty22, ty34, ty130, ty132, K86, C_own, own, C_live, C_keep, keep, live19_3, hi, hw, Inc.c, hc, hp, hg, hpl] <;> (first | omega | (simp_all; done) | skip)
  have hall := part_all (l.map Inc.c) (Inc.c ⟨0, 0⟩)
  rw [List.length_map] at hall
  rw [hall]
  simp (config := { maxSteps := 10000000 }) [C_ty, ty3, ty22, ty34, ty130, ty132, K86, C_own, own, C_live, C_keep, keep, live19_3] <;> (first | omega | (simp_all; done) | skip)
theorem toRequest_c (x : Rq) : call C 22 [.agg x.c] [] [] = some ([.agg x.c], [], []) := by
  rw [call_pure C (f := 22) (fn := Tryz.f22) (C_P ▸ Tryz.func22) rfl rfl]
  simp (config := { maxSteps := 10000000 }) [C_ty, ty3, ty28, ty42, Rq.c] <;> (first | omega | (simp_all; done) | skip)
end Go.AI
/- Copies, sizes and equality of conditions. -/
namespace Go.AI
open Go Go.Proofs Rl
attribute [local congr] bind_left map_left guardOn_congr condOn_congr
attribute [local simp] call_pure start run_seq run_region run_draw arrange run_cond run_block exec_ret exec_exit exec_skip ite_bind ite_map opsW_nil opsW_cons opsW_guard doOp_move doOp_assign doOp_pick doOp_load doOp_nilCheck doOp_fieldAddr doOp_indexAddr doOp_index doOp_slice doOp_binOp doOp_not doOp_neg doOp_convert doOp_extract doOp_build doOp_makeFunc doOp_len doOp_min doOp_max doOp_field doOp_alloc doOp_box doOp_store doOp_buildSlice doOp_makeSlice doOp_append doOp_call cutMk ret tidy sift closed okCell cellsT headOf
set_option maxRecDepth 100000
set_option maxHeartbeats 4000000
set_option linter.unusedSimpArgs false
set_option linter.unusedVariables false
mutual
/-- No list in it is too long. -/
def Tr.fine : Tr → Prop
  | ⟨_, _, _, ts⟩ => ts.length < 9223372036854775808 ∧ Tr.fines ts
def Tr.fines : List Tr → Prop
  | [] => True
  | x :: xs => x.fine ∧ Tr.fines xs
end
theorem Tr.fines_mem : ∀ {l : List Tr} (_ : Tr.fines l) {x : Tr} (_ : x ∈ l), x.fine
  | y :: l, h, x, hx => by
    simp only [Tr.fines] at h
    rcases List.mem_cons.1 hx with rfl | hx
    · exact h.1
    · exact Tr.fines_mem h.2 hx
theorem Tr.fine_len {t : Tr} (h : t.fine) : t.ts.length < 9223372036854775808 := by cases t; simp only [Tr.fine] at h; exact h.1
theorem Tr.fine_ts {t : Tr} (h : t.fine) : Tr.fines t.ts := by cases t; simp only [Tr.fine] at h; exact h.2
theorem Tr.sizes_rest : ∀ (l : List Tr) (k : Nat), k ≤ l.length → Tr.sizes (l.take k) + (l.length - k) ≤ Tr.sizes l
  | l, 0, _ => by simpa [Tr.sizes] using Tr.len_le l
  | x :: l, k + 1, h => by
    have := Tr.sizes_rest l k (by simpa using h)
    simp only [List.take_succ_cons, Tr.sizes, List.length_cons]
    omega
/-- What is left after a tree is counted. -/
def Tr.leave (t : Tr) (n : Int) : Int := if n + 1 < t.size then -1 else n + 1 - t.size
def Tr.leaves (l : List Tr) (n : Int) : Int := if n < Tr.sizes l then -1 else n - Tr.sizes l
def Tr.after (l : List Tr) (n : Int) (i : Nat) : Int := n - l.length - ((Tr.sizes (l.take i) : Int) - i)
theorem Tr.after_succ {l : List Tr} {n : Int} {i : Nat} (h : i < l.length) : Tr.after l n (i + 1) = Tr.after l n i + 1 - l[i].size := by
  unfold Tr.after
  rw [Tr.sizes_take l i h]
  omega
theorem Tr.after_le (l : List Tr) (n : Int) : ∀ i, i ≤ l.length → Tr.after l n i ≤ n - l.length
  | 0, _ => by simp [Tr.after, Tr.sizes]
  | i + 1, h => by
    rw [Tr.after_succ (by omega)]
    have := Tr.after_le l n i (by omega)
    have := Tr.size_pos l[i]
    omega
theorem szCondS_c (l : List Tr) (hl : l.length < 9223372036854775808) (ih : ∀ x ∈ l, ∀ n : Int, 0 ≤ n → n < 4611686018427387904 → call C 55 [.agg x.c, .int .i64 n] [] [] = some ([.int .i64 (x.leave n)], [], [])) (n : Int) (hn : 0 ≤ n) (hn2 : n < 4611686018427387904) : call C 131 [.arr 4 (Tr.cs l), .int .i64 n] [] [] = some ([.int .i64 (Tr.leaves l n)], [], []) := by
  have hw : IntKind.i64.wrap (n - l.length) = n - l.length := wrap_small (by omega) (by omega)
  have hlen := Tr.len_le l
  by_cases h0 : n < l.length
  · have : Tr.leaves l n = -1 := by unfold Tr.leaves; rw [if_pos (by omega)]
    rw [call_pure C (f := 131) (fn := Tryz.f131) (C_P ▸ Tryz.func131) rfl rfl]
    simp (config := { maxSteps := 10000000 }) [C_ty, ty3, ty86, ty88, K55, C_own, own, C_live, C_keep, keep, live131_5, hw, Tr.cs_len, h0, this] <;> (first | omega | (simp_all; done) | skip)
  rw [call_pure C (f := 131) (fn := Tryz.f131) (C_P ▸ Tryz.func131) rfl rfl]
  simp (config := { maxSteps := 10000000 }) [C_ty, ty3, ty86, ty88, K55, C_own, own, C_live, C_keep, keep, live131_5, hw, Tr.cs_len, h0] <;> (first | omega | (simp_all; done) | skip)
  rw [loop_stop C 131 (J := fun i => ⟨[(5, .int .i64 i), (1, .int .i64 (Tr.after l n i)), (0, .arr 4 (Tr.cs l))], [], []⟩) (n := l.length) (p := fun i => decide (Tr.after l n (i + 1) < 0)) (h0 := ?h0) (step := ?step)]
  case h0 => simp (config := { maxSteps := 10000000 }) [C_ty, ty3, ty86, ty88, K55, C_own, own, C_live, C_keep, keep, live131_5, Tr.after, Tr.sizes] <;> (first | omega | (simp_all; done) | skip)
  case step =>
    intro i hi hp
    have hw2 := wrap_nat (i := i) (by omega)
    have hp : ¬ Tr.after l n (i + 1) < 0 := by simpa using hp
    have ha := Tr.after_le l n i (by omega)
    have hs := Tr.size_pos l[i]
    have e := Tr.after_succ (n := n) hi
    have hc := ih l[i] (List.getElem_mem hi) (Tr.after l n i) (by omega) (by omega)
    rw [Tr.leave, if_neg (by omega), ← e] at hc
    simp only [Tr.c_eq] at hc
    simp (config := { maxSteps := 10000000 }) [C_ty, ty3, ty86, ty88, K55, C_own, own, C_live, C_keep, keep, live131_5, hi, hw2, Tr.cs_len, Tr.cs_at, hc, hp] <;> (first | omega | (simp_all; done) | skip)
  have hle := stop_le (fun i => decide (Tr.after l n (i + 1) < 0)) l.length
  have hhit := stop_hit (p := fun i => decide (Tr.after l n (i + 1) < 0)) (n := l.length)
  have hbef := fun j => stop_before (p := fun i => decide (Tr.after l n (i + 1) < 0)) (n := l.length) (j := j)
  generalize stop (fun i => decide (Tr.after l n (i + 1) < 0)) l.length = i at *
  have hnn : 0 ≤ Tr.after l n i := by
    cases i with
    | zero => simp [Tr.after, Tr.sizes]; omega
    | succ j =>
      have := hbef j (by omega)
      simp only [decide_eq_false_iff_not] at this
      omega
  have ha := Tr.after_le l n i hle
  by_cases hi : i < l.length
  · have hp : Tr.after l n (i + 1) < 0 := by simpa using hhit hi
    have e := Tr.after_succ (n := n) hi
    have hs := Tr.size_pos l[i]
    have hc := ih l[i] (List.getElem_mem hi) (Tr.after l n i) hnn (by omega)
    rw [Tr.leave, if_pos (by omega)] at hc
    simp only [Tr.c_eq] at hc
    have hr := Tr.sizes_rest l (i + 1) hi
    have : Tr.leaves l n = -1 := by
      unfold Tr.leaves
      unfold Tr.after at hp
      rw [if_pos (by omega)]
    simp (config := { maxSteps := 10000000 }) [C_ty, ty3, ty86, ty88, K55, C_own, own, C_live, C_keep, keep, live131_5, hi, Tr.cs_len, Tr.cs_at, hc, this] <;> (first | omega | (simp_all; done) | skip)
  · obtain rfl : i = l.length := by omega
    have : Tr.leaves l n = Tr.after l n l.length := by
      unfold Tr.leaves
      unfold Tr.after at hnn ⊢
      rw [List.take_length] at hnn ⊢
      rw [if_neg (by omega)]
      omega
    simp (config := { maxSteps := 10000000 }) [C_ty, ty3, ty86, ty88, K55, C_own, own, C_live, C_keep, keep, live131_5, Tr.cs_len, this] <;> (first | omega | (simp_all; done) | skip)
theorem szCond_c (t : Tr) : t.fine → ∀ n : Int, 0 ≤ n → n < 4611686018427387904 → call C 55 [.agg t.c, .int .i64 n] [] [] = some ([.int .i64 (t.leave n)], [], []) := by
  induction t using Tr.ind with
  | _ t ih =>
  intro hf n hn hn2
  have hS := szCondS_c t.ts (Tr.fine_len hf) (fun x hx => ih x hx (Tr.fines_mem (Tr.fine_ts hf) hx)) n hn hn2
  have e : t.leave n = Tr.leaves t.ts n := by
    have := Tr.size_eq t
    unfold Tr.leave Tr.leaves
    split <;> split <;> omega
  rw [e]
  by_cases h : n < Tr.sizes t.ts
  · rw [Tr.leaves, if_pos h] at hS ⊢
    rw [call_pure C (f := 55) (fn := Tryz.f55) (C_P ▸ Tryz.func55) rfl rfl]
    simp (config := { maxSteps := 10000000 }) [C_ty, ty3, ty86, ty88, K131, C_own, own, Tr.c_eq t, hS] <;> (first | omega | (simp_all; done) | skip)
  · rw [Tr.leaves, if_neg h] at hS ⊢
    have h' : ¬ n - (Tr.sizes t.ts : Int) < 0 := by omega
    rw [call_pure C (f := 55) (fn := Tryz.f55) (C_P ▸ Tryz.func55) rfl rfl]
    simp (config := { maxSteps := 10000000 }) [C_ty, ty3, ty86, ty88, K131, C_own, own, Tr.c_eq t, hS, h'] <;> (first | omega | (simp_all; done) | skip)
theorem eqCondS_c (l : List Tr) (hl : l.length < 9223372036854775808) (ih : ∀ x ∈ l, call C 58 [.agg x.c, .agg x.c] [] [] = some ([.bool true], [], [])) : call C 135 [.arr 4 (Tr.cs l), .arr 4 (Tr.cs l)] [] [] = some ([.bool true], [], []) := by
  rw [call_pure C (f := 135) (fn := Tryz.f135) (C_P ▸ Tryz.func135) rfl rfl]
  simp (config := { maxSteps := 10000000 }) [C_ty, ty3, ty4, ty59, ty61, K58, C_own, own, C_order, order, C_live, C_keep, keep, live135_4, Tr.cs_len] <;> (first | omega | (simp_all; done) | skip)
  rw [loop_to C 135 (J := fun i => ⟨[(5, .int .i64 i), (1, .arr 4 (Tr.cs l)), (0, .arr 4 (Tr.cs l))], [], []⟩) (n := l.length) (h0 := ?h0) (step := ?step)]
  case h0 => simp (config := { maxSteps := 10000000 }) [C_ty, ty3, ty4, ty59, ty61, K58, C_own, own, C_order, order, C_live, C_keep, keep, live135_4] <;> (first | omega | (simp_all; done) | skip)
  case step =>
    intro i hi
    have hw := wrap_nat (i := i) (by omega)
    have hc := ih l[i] (List.getElem_mem hi)
    simp only [Tr.c_eq] at hc
    simp (config := { maxSteps := 10000000 }) [C_ty, ty3, ty4, ty59, ty61, K58, C_own, own, C_order, order, C_live, C_keep, keep, live135_4, hi, hw, Tr.cs_len, Tr.cs_at, hc] <;> (first | omega | (simp_all; done) | skip)
  simp (config := { maxSteps := 10000000 }) [C_ty, ty3, ty4, ty59, ty61, K58, C_own, own, C_order, order, C_live, C_keep, keep, live135_4, Tr.cs_len] <;> (first | omega | (simp_all; done) | skip)
theorem eqCond_c (t : Tr) : t.fine → call C 58 [.agg t.c, .agg t.c] [] [] = some ([.bool true], [], []) := by
  induction t using Tr.ind with
  | _ t ih =>
  intro hf
  have hS := eqCondS_c t.ts (Tr.fine_len hf) (fun x hx => ih x hx (Tr.fines_mem (Tr.fine_ts hf) hx))
  rw [call_pure C (f := 58) (fn := Tryz.f58) (C_P ▸ Tryz.func58) rfl rfl]
  simp (config := { maxSteps := 10000000 }) [C_ty, ty3, ty4, ty59, ty61, K135, C_own, own, Tr.c_eq t, hS] <;> (first | omega | (simp_all; done) | skip)
def zeroTr : List PV := [.int .i64 0, .int .i64 0, .int .i64 0, .nil]
theorem toCondS_c (l : List Tr) (hl : l.length ≤ 1048576) (ih : ∀ x ∈ l, call C 57 [.agg x.c] [] [] = some ([.agg x.c], [], [])) : call C 134 [.arr 4 (Tr.cs l)] [] [] = some ([.oarr 61 (Tr.cs l)], [], []) := by
  have hsz : (l.length : Int) * 48 ≤ 281474976710656 := by omega
  rw [call_pure C (f := 134) (fn := Tryz.f134) (C_P ▸ Tryz.func134) rfl rfl]
  simp (config := { maxSteps := 10000000 }) [C_ty, ty3, ty59, ty61, ty86, ty88, K57, C_own, own, C_live, C_keep, keep, live134_3, Tr.cs_len, hsz] <;> (first | omega | (simp_all; done) | skip)
  rw [loop_to C 134 (J := fun i => ⟨[(4, .int .i64 i), (3, .ref 448 0 l.length l.length), (0, .arr 4 (Tr.cs l))], [], [(448, ⟨false, l.length, 61, part (Tr.cs l) zeroTr i⟩)]⟩) (n := l.length) (h0 := ?h0) (step := ?step)]
  case h0 => simp (config := { maxSteps := 10000000 }) [C_ty, ty3, ty59, ty61, ty86, ty88, K57, C_own, own, C_live, C_keep, keep, live134_3, part_zero, zeroTr, Tr.cs_len] <;> (first | omega | (simp_all; done) | skip)
  case step =>
    intro i hi
    have hw := wrap_nat (i := i) (by omega)
    have hc := ih l[i] (List.getElem_mem hi)
    have hi' : i < (Tr.cs l).length := by rw [Tr.cs_len]; exact hi
    have hp := part_set (Tr.cs l) zeroTr hi' (v := Tr.c l[i]) (by rw [Tr.cs_at hi', Tr.c_eq])
    have hg := part_at (Tr.cs l) zeroTr hi'
    have hpl := part_len (Tr.cs l) zeroTr (Nat.le_of_lt hi')
    rw [Tr.cs_len] at hpl
    have hzl : zeroTr.length = 4 := rfl
    have hzd : zeroTr.drop 4 = [] := rfl
    simp only [Tr.c_eq] at hc hp
    simp (config := { maxSteps := 10000000 }) [C_ty, ty3, ty59, ty61, ty86, ty88, K57, C_own, own, C_live, C_keep, keep, live134_3, hi, hw, Tr.cs_len, Tr.cs_at, hc, hp, hg, hpl, hzl, hzd] <;> (first | omega | (simp_all; done) | skip)
  have hall := part_all (Tr.cs l) zeroTr
  rw [Tr.cs_len] at hall
  rw [hall]
  simp (config := { maxSteps := 10000000 }) [C_ty, ty3, ty59, ty61, ty86, ty88, K57, C_own, own, C_live, C_keep, keep, live134_3, Tr.cs_len] <;> (first | omega | (simp_all; done) | skip)
theorem toCond_c (t : Tr) : t.size ≤ 1048577 → call C 57 [.agg t.c] [] [] = some ([.agg t.c], [], []) := by
  induction t using Tr.ind with
  | _ t ih =>
  intro hs
  have h1 := Tr.size_eq t
  have h2 := Tr.len_le t.ts
  have hS := toCondS_c t.ts (by omega) (fun x hx => ih x hx (by have := Tr.size_mem hx; omega))
  rw [call_pure C (f := 57) (fn := Tryz.f57) (C_P ▸ Tryz.func57) rfl rfl]
  simp (config := { maxSteps := 10000000 }) [C_ty, ty3, ty59, ty61, ty86, ty88, K134, C_own, own, Tr.c_eq t, hS] <;> (first | omega | (simp_all; done) | skip)
end Go.AI
/- Copies of requests. -/
namespace Go.AI
open Go Go.Proofs Rl
attribute [local congr] bind_left map_left guardOn_congr condOn_congr
attribute [local simp] call_pure start run_seq run_region run_draw arrange run_cond run_block exec_ret exec_exit exec_skip ite_bind ite_map opsW_nil opsW_cons opsW_guard doOp_move doOp_assign doOp_pick doOp_load doOp_nilCheck doOp_fieldAddr doOp_indexAddr doOp_index doOp_slice doOp_binOp doOp_not doOp_neg doOp_convert doOp_extract doOp_build doOp_makeFunc doOp_len doOp_min doOp_max doOp_field doOp_alloc doOp_box doOp_store doOp_buildSlice doOp_makeSlice doOp_append doOp_call cutMk ret tidy sift closed okCell cellsT headOf
set_option maxRecDepth 100000
set_option maxHeartbeats 4000000
set_option linter.unusedSimpArgs false
set_option linter.unusedVariables false
theorem eqRequest_c (x : Rq) : call C 146 [.agg x.c, .agg x.c] [] [] = some ([.bool true], [], []) := by
  rw [call_pure C (f := 146) (fn := Tryz.f146) (C_P ▸ Tryz.func146) rfl rfl]
  simp (config := { maxSteps := 10000000 }) [C_ty, ty3, ty42, Rq.c] <;> (first | omega | (simp_all; done) | skip)
theorem szRequestS_c (l : List Rq) (n : Int) (hn : 0 ≤ n) (hn2 : n < 4611686018427387904) (hl : l.length < 9223372036854775808) : call C 64 [.arr 6 (l.map Rq.c), .int .i64 n] [] [] = some ([.int .i64 (if n < l.length then -1 else n - l.length)], [], []) := by
  have hw : IntKind.i64.wrap (n - l.length) = n - l.length := wrap_small (by omega) (by omega)
  rw [call_pure C (f := 64) (fn := Tryz.f64) (C_P ▸ Tryz.func64) rfl rfl]
  by_cases h0_ : n < l.length
  · simp (config := { maxSteps := 10000000 }) [C_ty, ty3, ty28, ty95, hw, h0_] <;> (first | omega | (simp_all; done) | skip)
  · simp (config := { maxSteps := 10000000 }) [C_ty, ty3, ty28, ty95, hw, h0_] <;> (first | omega | (simp_all; done) | skip)
theorem eqRequestS_c (l : List Rq) (hl : l.length < 9223372036854775807) : call C 68 [.arr 6 (l.map Rq.c), .arr 6 (l.map Rq.c)] [] [] = some ([.bool true], [], []) := by
  rw [call_pure C (f := 68) (fn := Tryz.f68) (C_P ▸ Tryz.func68) rfl rfl]
  simp (config := { maxSteps := 10000000 }) [C_ty, ty3, ty4, ty42, ty98, K146, C_own, own, C_order, order, C_live, C_keep, keep, live68_4] <;> (first | omega | (simp_all; done) | skip)
  rw [loop_to C 68 (J := fun i => ⟨[(5, .int .i64 i), (1, .arr 6 (l.map Rq.c)), (0, .arr 6 (l.map Rq.c))], [], []⟩) (n := l.length) (h0 := ?h0) (step := ?step)]
  case h0 => simp (config := { maxSteps := 10000000 }) [C_ty, ty3, ty4, ty42, ty98, K146, C_own, own, C_order, order, C_live, C_keep, keep, live68_4] <;> (first | omega | (simp_all; done) | skip)
  case step =>
    intro i hi
    have hw := wrap_nat (i := i) (by omega)
    have hc := eqRequest_c l[i]
    simp only [Rq.c] at hc
    simp (config := { maxSteps := 10000000 }) [C_ty, ty3, ty4, ty42, ty98, K146, C_own, own, C_order, order, C_live, C_keep, keep, live68_4, hi, hw, Rq.c, hc] <;> (first | omega | (simp_all; done) | skip)
  simp (config := { maxSteps := 10000000 }) [C_ty, ty3, ty4, ty42, ty98, K146, C_own, own, C_order, order, C_live, C_keep, keep, live68_4] <;> (first | omega | (simp_all; done) | skip)
theorem toRequestS_c (l : List Rq) (hl : l.length ≤ 1048576) : call C 66 [.arr 6 (l.map Rq.c)] [] [] = some ([.oarr 42 (l.map Rq.c)], [], []) := by
  have hsz : (l.length : Int) * 48 ≤ 281474976710656 := by omega
  rw [call_pure C (f := 66) (fn := Tryz.f66) (C_P ▸ Tryz.func66) rfl rfl]
  simp (config := { maxSteps := 10000000 }) [C_ty, ty3, ty28, ty42, ty95, ty98, K22, C_own, own, C_live, C_keep, keep, live66_3, hsz] <;> (first | omega | (simp_all; done) | skip)
  rw [loop_to C 66 (J := fun i => ⟨[(4, .int .i64 i), (3, .ref 448 0 l.length l.length), (0, .arr 6 (l.map Rq.c))], [], [(448, ⟨false, l.length, 42, part (l.map Rq.c) (Rq.c ⟨0, 0, 0, 0, 0, 0⟩) i⟩)]⟩) (n := l.length) (h0 := ?h0) (step := ?step)]
  case h0 => simp (config := { maxSteps := 10000000 }) [C_ty, ty3, ty28, ty42, ty95, ty98, K22, C_own, own, C_live, C_keep, keep, live66_3, part_zero, Rq.c] <;> (first | omega | (simp_all; done) | skip)
  case step =>
    intro i hi
    have hw := wrap_nat (i := i) (by omega)
    have hc := toRequest_c l[i]
    have hi' : i < (l.map Rq.c).length := by simpa using hi
    have hp := part_set (l.map Rq.c) (Rq.c ⟨0, 0, 0, 0, 0, 0⟩) hi' (v := Rq.c l[i]) (by simp)
    have hg := part_at (l.map Rq.c) (Rq.c ⟨0, 0, 0, 0, 0, 0⟩) hi'
    have hpl := part_len (l.map Rq.c) (Rq.c ⟨0, 0, 0, 0, 0, 0⟩) (Nat.le_of_lt hi')
    rw [List.length_map] at hpl
    simp only [Rq.c] at hc hp hg hpl
    simp (config := { maxSteps := 10000000 }) [C_ty, ty3, ty28, ty42, ty95, ty98, K22, C_own, own, C_live, C_keep, keep, live66_3, hi, hw, Rq.c, hc, hp, hg, hpl] <;> (first | omega | (simp_all; done) | skip)
  have hall := part_all (l.map Rq.c) (Rq.c ⟨0, 0, 0, 0, 0, 0⟩)
  rw [List.length_map] at hall
  rw [hall]
  simp (config := { maxSteps := 10000000 }) [C_ty, ty3, ty28, ty42, ty95, ty98, K22, C_own, own, C_live, C_keep, keep, live66_3] <;> (first | omega | (simp_all; done) | skip)
end Go.AI
/- Requests; whether a condition never holds, and until when it goes on. -/
namespace Go.AI
open Go Go.Proofs Rl
attribute [local congr] bind_left map_left guardOn_congr condOn_congr
attribute [local simp] call_pure start run_seq run_region run_draw arrange run_cond run_block exec_ret exec_exit exec_skip ite_bind ite_map opsW_nil opsW_cons opsW_guard doOp_move doOp_assign doOp_pick doOp_load doOp_nilCheck doOp_fieldAddr doOp_indexAddr doOp_index doOp_slice doOp_binOp doOp_not doOp_neg doOp_convert doOp_extract doOp_build doOp_makeFunc doOp_len doOp_min doOp_max doOp_field doOp_alloc doOp_box doOp_store doOp_buildSlice doOp_makeSlice doOp_append doOp_call cutMk ret tidy sift closed okCell cellsT headOf
set_option maxRecDepth 100000
set_option maxHeartbeats 4000000
set_option linter.unusedSimpArgs false
set_option linter.unusedVariables false
theorem rq_get {l : List Rq} {i : Nat} (h : i < l.length) : (l.map Rq.c)[i]? = some [.int .i64 l[i].p, .int .i64 l[i].d, .int .i64 l[i].g, .int .i64 l[i].a, .int .i64 l[i].o, .int .i64 l[i].n] := by
  simp [h, Rq.c]
theorem IndexFuncQ_c (l : List Rq) (g : FuncId) (cap : List PV) (q : Rq → Bool) (hio : C.io g = []) (hcap : capOk cap) (hl : l.length < 9223372036854775807) (hq : ∀ t ∈ l, call C g (.agg t.c :: cap) [] [] = some ([.bool (q t)], [], [])) :
    call C 191 [.arr 6 (l.map Rq.c), .fn g cap] [] [] = some ([.int .i64 (placeOf (fun i => (l[i]?).any q) l.length)], [], []) := by
  have K := fun call dir f d st vs => callK_pure C call f d st dir g vs hio
  have h1 := hcap.lend
  have h2 := hcap.ptr g
  have h3 := hcap.ptrs
  have h4 := hcap.all
  rw [call_pure C (f := 191) (fn := Tryz.f191) (C_P ▸ Tryz.func191) rfl rfl]
  simp (config := { maxSteps := 10000000 }) [C_ty, ty3, ty42, ty98, C_live, C_keep, keep, live191_2, List.length_map] <;> (first | omega | (simp_all; done) | skip)
  rw [loop_stop C 191 (J := fun i => ⟨[(8, .int .i64 i), (7, .int .i64 l.length), (1, .fn g cap), (0, .arr 6 (l.map Rq.c))], [], []⟩) (n := l.length) (p := fun i => (l[i]?).any q) (h0 := ?h0) (step := ?step)]
  case h0 => simp (config := { maxSteps := 10000000 }) [C_ty, ty3, ty42, ty98, C_live, C_keep, keep, live191_2, h2] <;> (first | omega | (simp_all; done) | skip)
  case step =>
    intro i hi hp
    have hw := wrap_nat (i := i) (by omega)
    have hg := rq_get hi
    have hc := hq l[i] (List.getElem_mem hi)
    simp only [Rq.c] at hc
    have hne : q l[i] = false := by simpa [hi] using hp
    simp (config := { maxSteps := 10000000 }) [C_ty, ty3, ty42, ty98, C_live, C_keep, keep, live191_2, hi, hw, hg, Rq.c, hne, K, h1, h2, h3, h4, hc] <;> (first | omega | (simp_all; done) | skip)
  unfold placeOf
  generalize hs : stop (fun i => (l[i]?).any q) l.length = i
  have hle := stop_le (fun i => (l[i]?).any q) l.length
  rw [hs] at hle
  by_cases hi : i < l.length
  · have hp := stop_hit (p := fun i => (l[i]?).any q) (n := l.length) (by omega)
    rw [hs] at hp
    have hg := rq_get hi
    have he : q l[i] = true := by simpa [hi] using hp
    have hc := hq l[i] (List.getElem_mem hi)
    simp only [Rq.c] at hc
    simp (config := { maxSteps := 10000000 }) [C_ty, ty3, ty42, ty98, C_live, C_keep, keep, live191_2, hi, hg, Rq.c, he, K, h1, h2, h3, h4, hc] <;> (first | omega | (simp_all; done) | skip)
  · simp (config := { maxSteps := 10000000 }) [C_ty, ty3, ty42, ty98, C_live, C_keep, keep, live191_2, hi] <;> (first | omega | (simp_all; done) | skip)
theorem ContainsFuncQ_c (l : List Rq) (g : FuncId) (cap : List PV) (q : Rq → Bool) (hio : C.io g = []) (hcap : capOk cap) (hl : l.length < 9223372036854775807) (hq : ∀ t ∈ l, call C g (.agg t.c :: cap) [] [] = some ([.bool (q t)], [], [])) :
    call C 144 [.arr 6 (l.map Rq.c), .fn g cap] [] [] = some ([.bool (l.any q)], [], []) := by
  have h1 := hcap.lend
  have h2 := hcap.ptr g
  have h3 := hcap.ptrs
  have hc := IndexFuncQ_c l g cap q hio hcap hl hq
  rw [← place_any]
  rw [call_pure C (f := 144) (fn := Tryz.f144) (C_P ▸ Tryz.func144) rfl rfl]
  simp (config := { maxSteps := 10000000 }) [C_ty, ty3, ty42, ty69, ty98, K191, C_own, own, h1, h2, h3, hc] <;> (first | omega | (simp_all; done) | skip)
def evalC (l : List Inc) (s : List Fa) (t : Tr) (q : Rq) : Bool := t.isCond && t.eval (leafB l s q)
theorem NeverHolds_c (t : Tr) (r : List Rq) (l : List Inc) (s : List Fa) (hr : r.length < 9223372036854775807) (hl : l.length < 9223372036854775807) (hs : s.length ≤ 1048576) (ht : t.size < 4611686018427387904) : call C 67 [.agg t.c, .arr 6 (r.map Rq.c), incs l, fas s] [] [] = some ([.bool (!r.any (evalC l s t))], [], []) := by
  have hcl : ∀ q ∈ r, call C 145 (.agg q.c :: [.cptr [incs l] 0, .cptr [fas s] 0, .cptr t.c 0]) [] [] = some ([.bool (evalC l s t q)], [], []) := by
    intro q _
    have hc := EvalCond_c l s t q hl hs ht
    simp only [incs, fas, Rq.c, Tr.c_eq] at hc ⊢
    rw [call_pure C (f := 145) (fn := Tryz.f145) (C_P ▸ Tryz.func145) rfl rfl]
    simp (config := { maxSteps := 10000000 }) [C_ty, ty3, ty34, ty36, ty42, ty59, ty61, ty130, ty134, K47, C_own, own, hc, evalC] <;> (first | omega | (simp_all; done) | skip)
  have hf := ContainsFuncQ_c r 145 [.cptr [incs l] 0, .cptr [fas s] 0, .cptr t.c 0] (evalC l s t) rfl (fun c hc => by simp at hc; rcases hc with rfl | rfl | rfl <;> exact ⟨_, _, rfl⟩) hr hcl
  simp only [incs, fas, Tr.c_eq] at hf ⊢
  rw [call_pure C (f := 67) (fn := Tryz.f67) (C_P ▸ Tryz.func67) rfl rfl]
  simp (config := { maxSteps := 10000000 }) [C_ty, ty3, ty4, ty34, ty36, ty42, ty59, ty61, ty69, ty98, ty130, ty134, K144, K145, C_own, own, hf] <;> (first | omega | (simp_all; done) | skip)
theorem sNeverHolds_c (t : Tr) (r : List Rq) (l : List Inc) (s : List Fa) (hr : r.length < 9223372036854775807) (hl : l.length < 9223372036854775807) (hs : s.length ≤ 1048576) (ht : t.size < 4611686018427387904) : call C 65 [.agg t.c, .arr 6 (r.map Rq.c), incs l, fas s] [] [] = some ([.bool (!r.any (evalC l s t))], [], []) := by
  have hE := fun q => sEvalCond_c l s t q hl hs ht
  simp only [incs, fas, Tr.c_eq, Rq.c] at hE ⊢
  rw [call_pure C (f := 65) (fn := Tryz.f65) (C_P ▸ Tryz.func65) rfl rfl]
  simp (config := { maxSteps := 10000000 }) [C_ty, ty3, ty34, ty36, ty42, ty59, ty61, ty98, ty130, ty134, K100, C_own, own, C_order, order, C_live, C_keep, keep, live65_2] <;> (first | omega | (simp_all; done) | skip)
  rw [loop_stop C 65 (J := fun i => ⟨[(9, .int .i64 i), (4, .ptr 256 0), (3, .arr 6 (s.map Fa.c)), (2, .arr 2 (l.map Inc.c)), (1, .arr 6 (r.map Rq.c))], [(256, [.int .i64 t.op, .int .i64 t.a, .int .i64 t.b, .arr 4 (Tr.cs t.ts)])], []⟩) (n := r.length) (p := fun i => (r[i]?).any (evalC l s t)) (h0 := ?h0) (step := ?step)]
  case h0 => simp (config := { maxSteps := 10000000 }) [C_ty, ty3, ty34, ty36, ty42, ty59, ty61, ty98, ty130, ty134, K100, C_own, own, C_order, order, C_live, C_keep, keep, live65_2] <;> (first | omega | (simp_all; done) | skip)
  case step =>
    intro i hi hp
    have hw := wrap_nat (i := i) (by omega)
    have hc := hE r[i]
    have hne : evalC l s t r[i] = false := by simpa [hi] using hp
    change _ = some ([PV.bool (evalC l s t r[i])], [], []) at hc
    simp (config := { maxSteps := 10000000 }) [C_ty, ty3, ty34, ty36, ty42, ty59, ty61, ty98, ty130, ty134, K100, C_own, own, C_order, order, C_live, C_keep, keep, live65_2, hi, hw, Rq.c, hc, hne] <;> (first | omega | (simp_all; done) | skip)
  generalize hs' : stop (fun i => (r[i]?).any (evalC l s t)) r.length = i
  have hle := stop_le (fun i => (r[i]?).any (evalC l s t)) r.length
  have hany := place_any r (evalC l s t)
  unfold placeOf at hany
  rw [hs'] at hle hany
  by_cases hi : i < r.length
  · have hp := stop_hit (p := fun i => (r[i]?).any (evalC l s t)) (n := r.length) (by omega)
    rw [hs'] at hp
    have he : evalC l s t r[i] = true := by simpa [hi] using hp
    have hc := hE r[i]
    change _ = some ([PV.bool (evalC l s t r[i])], [], []) at hc
    rw [if_pos hi] at hany
    have hany : r.any (evalC l s t) = true := by rw [← hany]; simp
    simp (config := { maxSteps := 10000000 }) [C_ty, ty3, ty34, ty36, ty42, ty59, ty61, ty98, ty130, ty134, K100, C_own, own, C_order, order, C_live, C_keep, keep, live65_2, hi, Rq.c, hc, he, hany] <;> (first | omega | (simp_all; done) | skip)
  · rw [if_neg hi] at hany
    have hany : r.any (evalC l s t) = false := by rw [← hany]; rfl
    simp (config := { maxSteps := 10000000 }) [C_ty, ty3, ty34, ty36, ty42, ty59, ty61, ty98, ty130, ty134, K100, C_own, own, C_order, order, C_live, C_keep, keep, live65_2, hi, hany] <;> (first | omega | (simp_all; done) | skip)
def isReq (q : Rq) : Bool := hasKind q.p 1 && hasKind q.d 2 && hasKind q.g 3 && hasKind q.o 4 && inB 0 5 q.a && isTime q.n
theorem IsRequest_c (q : Rq) : call C 41 [.agg q.c] [] [] = some ([.bool (isReq q)], [], []) := by
  obtain ⟨p, d, g, a, o, n⟩ := q
  rw [call_pure C (f := 41) (fn := Tryz.f41) (C_P ▸ Tryz.func41) rfl rfl]
  by_cases h0_ : hasKind p 1 = true
  · by_cases h1_ : hasKind d 2 = true
    · by_cases h2_ : hasKind g 3 = true
      · by_cases h3_ : hasKind o 4 = true
        · by_cases h4_ : inB 0 5 a = true
          · simp (config := { maxSteps := 10000000 }) [C_ty, ty3, ty42, K106, K108, K109, C_own, own, Rq.c, isReq, HasKind_c, InRange_c, IsTime_c, h0_, h1_, h2_, h3_, h4_] <;> (first | omega | (simp_all; done) | skip)
          · simp (config := { maxSteps := 10000000 }) [C_ty, ty3, ty42, K106, K108, K109, C_own, own, Rq.c, isReq, HasKind_c, InRange_c, IsTime_c, h0_, h1_, h2_, h3_, h4_] <;> (first | omega | (simp_all; done) | skip)
        · simp (config := { maxSteps := 10000000 }) [C_ty, ty3, ty42, K106, K108, K109, C_own, own, Rq.c, isReq, HasKind_c, InRange_c, IsTime_c, h0_, h1_, h2_, h3_] <;> (first | omega | (simp_all; done) | skip)
      · simp (config := { maxSteps := 10000000 }) [C_ty, ty3, ty42, K106, K108, K109, C_own, own, Rq.c, isReq, HasKind_c, InRange_c, IsTime_c, h0_, h1_, h2_] <;> (first | omega | (simp_all; done) | skip)
    · simp (config := { maxSteps := 10000000 }) [C_ty, ty3, ty42, K106, K108, K109, C_own, own, Rq.c, isReq, HasKind_c, InRange_c, IsTime_c, h0_, h1_] <;> (first | omega | (simp_all; done) | skip)
  · simp (config := { maxSteps := 10000000 }) [C_ty, ty3, ty42, K106, K108, K109, C_own, own, Rq.c, isReq, HasKind_c, InRange_c, IsTime_c, h0_] <;> (first | omega | (simp_all; done) | skip)
theorem sIsRequest_c (q : Rq) : call C 61 [.agg q.c] [] [] = some ([.bool (isReq q)], [], []) := by
  obtain ⟨p, d, g, a, o, n⟩ := q
  rw [call_pure C (f := 61) (fn := Tryz.f61) (C_P ▸ Tryz.func61) rfl rfl]
  by_cases h0_ : hasKind p 1 = true
  · by_cases h1_ : hasKind d 2 = true
    · by_cases h2_ : hasKind g 3 = true
      · by_cases h3_ : hasKind o 4 = true
        · by_cases h4_ : inB 0 5 a = true
          · simp (config := { maxSteps := 10000000 }) [C_ty, ty3, ty42, K132, K141, K142, C_own, own, Rq.c, isReq, sHasKind_c, l1In_c, sIsTime_c, h0_, h1_, h2_, h3_, h4_] <;> (first | omega | (simp_all; done) | skip)
          · simp (config := { maxSteps := 10000000 }) [C_ty, ty3, ty42, K132, K141, K142, C_own, own, Rq.c, isReq, sHasKind_c, l1In_c, sIsTime_c, h0_, h1_, h2_, h3_, h4_] <;> (first | omega | (simp_all; done) | skip)
        · simp (config := { maxSteps := 10000000 }) [C_ty, ty3, ty42, K132, K141, K142, C_own, own, Rq.c, isReq, sHasKind_c, l1In_c, sIsTime_c, h0_, h1_, h2_, h3_] <;> (first | omega | (simp_all; done) | skip)
      · simp (config := { maxSteps := 10000000 }) [C_ty, ty3, ty42, K132, K141, K142, C_own, own, Rq.c, isReq, sHasKind_c, l1In_c, sIsTime_c, h0_, h1_, h2_] <;> (first | omega | (simp_all; done) | skip)
    · simp (config := { maxSteps := 10000000 }) [C_ty, ty3, ty42, K132, K141, K142, C_own, own, Rq.c, isReq, sHasKind_c, l1In_c, sIsTime_c, h0_, h1_] <;> (first | omega | (simp_all; done) | skip)
  · simp (config := { maxSteps := 10000000 }) [C_ty, ty3, ty42, K132, K141, K142, C_own, own, Rq.c, isReq, sHasKind_c, l1In_c, sIsTime_c, h0_] <;> (first | omega | (simp_all; done) | skip)
def atTime (q : Rq) (n : Int) : Rq := { q with n }
theorem AtTime_c (q : Rq) (n : Int) : call C 54 [.agg q.c, .int .i64 n] [] [] = some ([.agg (atTime q n).c], [], []) := by
  rw [call_pure C (f := 54) (fn := Tryz.f54) (C_P ▸ Tryz.func54) rfl rfl]
  simp (config := { maxSteps := 10000000 }) [C_ty, ty3, ty42, Rq.c, atTime] <;> (first | omega | (simp_all; done) | skip)
theorem sAtTime_c (q : Rq) (n : Int) : call C 133 [.agg q.c, .int .i64 n] [] [] = some ([.agg (atTime q n).c], [], []) := by
  rw [call_pure C (f := 133) (fn := Tryz.f133) (C_P ▸ Tryz.func133) rfl rfl]
  simp (config := { maxSteps := 10000000 }) [C_ty, ty3, ty42, Rq.c, atTime] <;> (first | omega | (simp_all; done) | skip)
end Go.AI
/- Until when a condition goes on as it is. -/
namespace Go.AI
open Go Go.Proofs Rl
attribute [local congr] bind_left map_left guardOn_congr condOn_congr
attribute [local simp] call_pure start run_seq run_region run_draw arrange run_cond run_block exec_ret exec_exit exec_skip ite_bind ite_map opsW_nil opsW_cons opsW_guard doOp_move doOp_assign doOp_pick doOp_load doOp_nilCheck doOp_fieldAddr doOp_indexAddr doOp_index doOp_slice doOp_binOp doOp_not doOp_neg doOp_convert doOp_extract doOp_build doOp_makeFunc doOp_len doOp_min doOp_max doOp_field doOp_alloc doOp_box doOp_store doOp_buildSlice doOp_makeSlice doOp_append doOp_call cutMk ret tidy sift closed okCell cellsT headOf
set_option maxRecDepth 100000
set_option maxHeartbeats 4000000
set_option linter.unusedSimpArgs false
set_option linter.unusedVariables false
/-- Here it ends. -/
def ends (E : Int → Bool) (n most : Int) (i : Nat) : Bool := !(decide ((i : Int) < most) && (decide (n + i < 10000) && (E (n + i + 1) == E n)))
def until_ (E : Int → Bool) (n most : Int) : Int := n + stop (ends E n most) 61
theorem ends_stop (E : Int → Bool) (n most : Int) (hm : most ≤ 60) : stop (ends E n most) 61 < 61 ∧ ends E n most (stop (ends E n most) 61) = true := by
  have h : stop (ends E n most) 61 < 61 := by
    refine stop_any.2 ⟨60, by omega, ?_⟩
    unfold ends
    rw [show decide (((60 : Nat) : Int) < most) = false by simp; omega]
    rfl
  exact ⟨h, stop_hit h⟩
def holdsTo (l : List Inc) (s : List Fa) (t : Tr) (q : Rq) (most : Int) : Int := if isReq q && inB 0 60 most then until_ (fun n => evalC l s t (atTime q n)) q.n most else q.n
theorem HoldsUntil_c (l : List Inc) (s : List Fa) (t : Tr) (q : Rq) (most : Int) (hl : l.length < 9223372036854775807) (hs : s.length ≤ 1048576) (ht : t.size < 4611686018427387904) : call C 53 [incs l, fas s, .agg t.c, .agg q.c, .int .i64 most] [] [] = some ([.int .i64 (holdsTo l s t q most)], [], []) := by
  have hR := IsRequest_c q
  have hE0 := EvalCond_c l s t q hl hs ht
  have hA := fun n => AtTime_c q n
  have hE := fun n => EvalCond_c l s t (atTime q n) hl hs ht
  have hq0 : atTime q q.n = q := rfl
  have hr : isReq q = true → 0 ≤ q.n ∧ q.n ≤ 10000 := by
    intro h
    unfold isReq at h
    simp only [Bool.and_eq_true] at h
    exact inB_iff.1 h.2
  change _ = some ([PV.bool (evalC l s t q)], [], []) at hE0
  change ∀ n, _ = some ([PV.bool (evalC l s t (atTime q n))], [], []) at hE
  unfold holdsTo
  generalize hEv : (fun n => evalC l s t (atTime q n)) = E
  have hv : ∀ n, evalC l s t (atTime q n) = E n := fun n => by rw [← hEv]
  have hv0 : evalC l s t q = E q.n := by rw [← hv, hq0]
  simp only [hv] at hE
  rw [hv0] at hE0
  generalize isReq q = rq at *
  obtain ⟨qp, qd, qg, qa, qo, qn⟩ := q
  simp only [incs, fas, Rq.c, atTime, Tr.c_eq t] at hR hE0 hA hE hr ⊢
  by_cases h1 : rq = true
  · obtain ⟨n0, n1⟩ := hr h1
    subst h1
    by_cases h2 : inB 0 60 most = true
    · have hb := inB_iff.1 h2
      rw [h2]
      rw [call_pure C (f := 53) (fn := Tryz.f53) (C_P ▸ Tryz.func53) rfl rfl]
      simp (config := { maxSteps := 10000000 }) [C_ty, ty3, ty4, ty34, ty36, ty42, ty59, ty61, ty130, ty134, K41, K47, K54, K106, C_own, own, C_order, order, C_live, C_keep, keep, live53_5, hR, InRange_c, h2, hE0] <;> (first | omega | (simp_all; done) | skip)
      obtain ⟨m, hm⟩ : ∃ m : Int, (if 10000 < qn + most then 10000 else qn + most) = m := ⟨_, rfl⟩
      have hm2 : ∀ x : Int, x < m ↔ x < qn + most ∧ x < 10000 := by intro x; rw [← hm]; split <;> omega
      rw [loop_stop C 53 (J := fun i => ⟨[(12, .bool (E qn)), (11, .int .i64 (qn + i)), (8, .ptr 512 0), (7, .ptr 448 0), (4, .int .i64 most), (1, .arr 6 (s.map Fa.c)), (0, .arr 2 (l.map Inc.c))], [(512, [.int .i64 qp, .int .i64 qd, .int .i64 qg, .int .i64 qa, .int .i64 qo, .int .i64 qn]), (448, [.int .i64 t.op, .int .i64 t.a, .int .i64 t.b, .arr 4 (Tr.cs t.ts)])], []⟩) (n := 61) (p := ends E qn most) (h0 := ?h0) (step := ?step)]
      case h0 => simp (config := { maxSteps := 10000000 }) [C_ty, ty3, ty4, ty34, ty36, ty42, ty59, ty61, ty130, ty134, K41, K47, K54, K106, C_own, own, C_order, order, C_live, C_keep, keep, live53_5] <;> (first | omega | (simp_all; done) | skip)
      case step =>
        intro i hi hp
        simp only [ends, Bool.not_eq_false', Bool.and_eq_true, decide_eq_true_eq, beq_iff_eq] at hp
        obtain ⟨c1, c2, c3⟩ := hp
        have c4 : qn + i < qn + most := by omega
        have w1 : IntKind.i64.wrap (qn + most) = qn + most := wrap_small (by omega) (by omega)
        have w2 : IntKind.i64.wrap (qn + i + 1) = qn + i + 1 := wrap_small (by omega) (by omega)
        have c5 : qn + i < m := (hm2 _).2 ⟨c4, c2⟩
        have w3 : qn + ((i : Int) + 1) = qn + i + 1 := by omega
        simp (config := { maxSteps := 10000000 }) [C_ty, ty3, ty4, ty34, ty36, ty42, ty59, ty61, ty130, ty134, K41, K47, K54, K106, C_own, own, C_order, order, C_live, C_keep, keep, live53_5, hm, c5, c1, c2, c3, c4, w1, w2, w3, hA, hE] <;> (first | omega | (simp_all; done) | skip)
      obtain ⟨k1, k2⟩ := ends_stop E qn most hb.2
      unfold until_
      generalize stop (ends E qn most) 61 = i at *
      have w1 : IntKind.i64.wrap (qn + most) = qn + most := wrap_small (by omega) (by omega)
      have w2 : IntKind.i64.wrap (qn + i + 1) = qn + i + 1 := wrap_small (by omega) (by omega)
      by_cases c1 : qn + i < qn + most
      · by_cases c2 : qn + i < 10000
        · have c3 : ¬ E (qn + i + 1) = E qn := by
            intro c3
            simp only [ends, c3, c2, show (i : Int) < most by omega] at k2
            simp at k2
          have c5 : qn + i < m := (hm2 _).2 ⟨c1, c2⟩
          simp (config := { maxSteps := 10000000 }) [C_ty, ty3, ty4, ty34, ty36, ty42, ty59, ty61, ty130, ty134, K41, K47, K54, K106, C_own, own, C_order, order, C_live, C_keep, keep, live53_5, hm, c5, c1, c2, c3, w1, w2, hA, hE] <;> (first | omega | (simp_all; done) | skip)
        · have c5 : ¬ qn + i < m := fun h => c2 ((hm2 _).1 h).2
          simp (config := { maxSteps := 10000000 }) [C_ty, ty3, ty4, ty34, ty36, ty42, ty59, ty61, ty130, ty134, K41, K47, K54, K106, C_own, own, C_order, order, C_live, C_keep, keep, live53_5, hm, c5, c1, c2, w1, w2, hA, hE] <;> (first | omega | (simp_all; done) | skip)
      · have c5 : ¬ qn + i < m := fun h => c1 ((hm2 _).1 h).1
        simp (config := { maxSteps := 10000000 }) [C_ty, ty3, ty4, ty34, ty36, ty42, ty59, ty61, ty130, ty134, K41, K47, K54, K106, C_own, own, C_order, order, C_live, C_keep, keep, live53_5, hm, c5, c1, w1, w2, hA, hE] <;> (first | omega | (simp_all; done) | skip)
    · rw [call_pure C (f := 53) (fn := Tryz.f53) (C_P ▸ Tryz.func53) rfl rfl]
      simp (config := { maxSteps := 10000000 }) [C_ty, ty3, ty4, ty34, ty36, ty42, ty59, ty61, ty130, ty134, K41, K47, K54, K106, C_own, own, C_order, order, C_live, C_keep, keep, live53_5, hR, InRange_c, h2] <;> (first | omega | (simp_all; done) | skip)
  · rw [call_pure C (f := 53) (fn := Tryz.f53) (C_P ▸ Tryz.func53) rfl rfl]
    simp (config := { maxSteps := 10000000 }) [C_ty, ty3, ty4, ty34, ty36, ty42, ty59, ty61, ty130, ty134, K41, K47, K54, K106, C_own, own, C_order, order, C_live, C_keep, keep, live53_5, hR, h1] <;> (first | omega | (simp_all; done) | skip)
theorem sHoldsUntil_c (l : List Inc) (s : List Fa) (t : Tr) (q : Rq) (most : Int) (hl : l.length < 9223372036854775807) (hs : s.length ≤ 1048576) (ht : t.size < 4611686018427387904) : call C 56 [incs l, fas s, .agg t.c, .agg q.c, .int .i64 most] [] [] = some ([.int .i64 (holdsTo l s t q most)], [], []) := by
  have hR := sIsRequest_c q
  have hE0 := sEvalCond_c l s t q hl hs ht
  have hA := fun n => sAtTime_c q n
  have hE := fun n => sEvalCond_c l s t (atTime q n) hl hs ht
  have hq0 : atTime q q.n = q := rfl
  have hr : isReq q = true → 0 ≤ q.n ∧ q.n ≤ 10000 := by
    intro h
    unfold isReq at h
    simp only [Bool.and_eq_true] at h
    exact inB_iff.1 h.2
  change _ = some ([PV.bool (evalC l s t q)], [], []) at hE0
  change ∀ n, _ = some ([PV.bool (evalC l s t (atTime q n))], [], []) at hE
  unfold holdsTo
  generalize hEv : (fun n => evalC l s t (atTime q n)) = E
  have hv : ∀ n, evalC l s t (atTime q n) = E n := fun n => by rw [← hEv]
  have hv0 : evalC l s t q = E q.n := by rw [← hv, hq0]
  simp only [hv] at hE
  rw [hv0] at hE0
  generalize isReq q = rq at *
  obtain ⟨qp, qd, qg, qa, qo, qn⟩ := q
  simp only [incs, fas, Rq.c, atTime, Tr.c_eq t] at hR hE0 hA hE hr ⊢
  by_cases h1 : rq = true
  · obtain ⟨n0, n1⟩ := hr h1
    subst h1
    by_cases h2 : inB 0 60 most = true
    · have hb := inB_iff.1 h2
      rw [h2]
      rw [call_pure C (f := 56) (fn := Tryz.f56) (C_P ▸ Tryz.func56) rfl rfl]
      simp (config := { maxSteps := 10000000 }) [C_ty, ty3, ty4, ty34, ty36, ty42, ty59, ty61, ty130, ty134, K61, K100, K132, K133, C_own, own, C_order, order, C_live, C_keep, keep, live56_5, hR, l1In_c, h2, hE0] <;> (first | omega | (simp_all; done) | skip)
      obtain ⟨m, hm⟩ : ∃ m : Int, (if 10000 < qn + most then 10000 else qn + most) = m := ⟨_, rfl⟩
      have hm2 : ∀ x : Int, x < m ↔ x < qn + most ∧ x < 10000 := by intro x; rw [← hm]; split <;> omega
      rw [loop_stop C 56 (J := fun i => ⟨[(12, .int .i64 (qn + i)), (11, .bool (E qn)), (8, .ptr 512 0), (7, .ptr 448 0), (4, .int .i64 most), (1, .arr 6 (s.map Fa.c)), (0, .arr 2 (l.map Inc.c))], [(512, [.int .i64 qp, .int .i64 qd, .int .i64 qg, .int .i64 qa, .int .i64 qo, .int .i64 qn]), (448, [.int .i64 t.op, .int .i64 t.a, .int .i64 t.b, .arr 4 (Tr.cs t.ts)])], []⟩) (n := 61) (p := ends E qn most) (h0 := ?h0) (step := ?step)]
      case h0 => simp (config := { maxSteps := 10000000 }) [C_ty, ty3, ty4, ty34, ty36, ty42, ty59, ty61, ty130, ty134, K61, K100, K132, K133, C_own, own, C_order, order, C_live, C_keep, keep, live56_5] <;> (first | omega | (simp_all; done) | skip)
      case step =>
        intro i hi hp
        simp only [ends, Bool.not_eq_false', Bool.and_eq_true, decide_eq_true_eq, beq_iff_eq] at hp
        obtain ⟨c1, c2, c3⟩ := hp
        have c4 : qn + i < qn + most := by omega
        have w1 : IntKind.i64.wrap (qn + most) = qn + most := wrap_small (by omega) (by omega)
        have w2 : IntKind.i64.wrap (qn + i + 1) = qn + i + 1 := wrap_small (by omega) (by omega)
        have c5 : qn + i < m := (hm2 _).2 ⟨c4, c2⟩
        have w3 : qn + ((i : Int) + 1) = qn + i + 1 := by omega
        simp (config := { maxSteps := 10000000 }) [C_ty, ty3, ty4, ty34, ty36, ty42, ty59, ty61, ty130, ty134, K61, K100, K132, K133, C_own, own, C_order, order, C_live, C_keep, keep, live56_5, hm, c5, c1, c2, c3, c4, w1, w2, w3, hA, hE] <;> (first | omega | (simp_all; done) | skip)
      obtain ⟨k1, k2⟩ := ends_stop E qn most hb.2
      unfold until_
      generalize stop (ends E qn most) 61 = i at *
      have w1 : IntKind.i64.wrap (qn + most) = qn + most := wrap_small (by omega) (by omega)
      have w2 : IntKind.i64.wrap (qn + i + 1) = qn + i + 1 := wrap_small (by omega) (by omega)
      by_cases c1 : qn + i < qn + most
      · by_cases c2 : qn + i < 10000
        · have c3 : ¬ E (qn + i + 1) = E qn := by
            intro c3
            simp only [ends, c3, c2, show (i : Int) < most by omega] at k2
            simp at k2
          simp (config := { maxSteps := 10000000 }) [C_ty, ty3, ty4, ty34, ty36, ty42, ty59, ty61, ty130, ty134, K61, K100, K132, K133, C_own, own, C_order, order, C_live, C_keep, keep, live56_5, c1, c2, c3, w1, w2, hA, hE] <;> (first | omega | (simp_all; done) | skip)
        · simp (config := { maxSteps := 10000000 }) [C_ty, ty3, ty4, ty34, ty36, ty42, ty59, ty61, ty130, ty134, K61, K100, K132, K133, C_own, own, C_order, order, C_live, C_keep, keep, live56_5, c1, c2, w1, w2, hA, hE] <;> (first | omega | (simp_all; done) | skip)
      · simp (config := { maxSteps := 10000000 }) [C_ty, ty3, ty4, ty34, ty36, ty42, ty59, ty61, ty130, ty134, K61, K100, K132, K133, C_own, own, C_order, order, C_live, C_keep, keep, live56_5, c1, w1, w2, hA, hE] <;> (first | omega | (simp_all; done) | skip)
    · rw [call_pure C (f := 56) (fn := Tryz.f56) (C_P ▸ Tryz.func56) rfl rfl]
      simp (config := { maxSteps := 10000000 }) [C_ty, ty3, ty4, ty34, ty36, ty42, ty59, ty61, ty130, ty134, K61, K100, K132, K133, C_own, own, C_order, order, C_live, C_keep, keep, live56_5, hR, l1In_c, h2] <;> (first | omega | (simp_all; done) | skip)
  · rw [call_pure C (f := 56) (fn := Tryz.f56) (C_P ▸ Tryz.func56) rfl rfl]
    simp (config := { maxSteps := 10000000 }) [C_ty, ty3, ty4, ty34, ty36, ty42, ty59, ty61, ty130, ty134, K61, K100, K132, K133, C_own, own, C_order, order, C_live, C_keep, keep, live56_5, hR, h1] <;> (first | omega | (simp_all; done) | skip)
end Go.AI
/- Rules and policies; which rules hold. -/
namespace Go.AI
open Go Go.Proofs Rl
attribute [local congr] bind_left map_left guardOn_congr condOn_congr
attribute [local simp] call_pure start run_seq run_region run_draw arrange run_cond run_block exec_ret exec_exit exec_skip ite_bind ite_map opsW_nil opsW_cons opsW_guard doOp_move doOp_assign doOp_pick doOp_load doOp_nilCheck doOp_fieldAddr doOp_indexAddr doOp_index doOp_slice doOp_binOp doOp_not doOp_neg doOp_convert doOp_extract doOp_build doOp_makeFunc doOp_len doOp_min doOp_max doOp_field doOp_alloc doOp_box doOp_store doOp_buildSlice doOp_makeSlice doOp_append doOp_call cutMk ret tidy sift closed okCell cellsT headOf
set_option maxRecDepth 100000
set_option maxHeartbeats 4000000
set_option linter.unusedSimpArgs false
set_option linter.unusedVariables false
/-- A rule. -/
structure Ru where
  (e a o : Int)
  (x : Tr)
def Ru.c (r : Ru) : List PV := [.int .i64 r.e, .int .i64 r.a, .int .i64 r.o, .int .i64 r.x.op, .int .i64 r.x.a, .int .i64 r.x.b, .arr 4 (Tr.cs r.x.ts)]
/-- A policy. -/
structure Po where
  (v : Int)
  (rs : List Ru)
def Po.c (p : Po) : List PV := [.int .i64 p.v, .arr 7 (p.rs.map Ru.c)]
theorem ru_get {l : List Ru} {i : Nat} (h : i < l.length) : (l.map Ru.c)[i]? = some [.int .i64 l[i].e, .int .i64 l[i].a, .int .i64 l[i].o, .int .i64 l[i].x.op, .int .i64 l[i].x.a, .int .i64 l[i].x.b, .arr 4 (Tr.cs l[i].x.ts)] := by
  simp [h, Ru.c]
theorem IndexFuncR_c (l : List Ru) (g : FuncId) (cap : List PV) (q : Ru → Bool) (hio : C.io g = []) (hcap : capOk cap) (hl : l.length < 9223372036854775807) (hq : ∀ t ∈ l, call C g (.agg t.c :: cap) [] [] = some ([.bool (q t)], [], [])) :
    call C 189 [.arr 7 (l.map Ru.c), .fn g cap] [] [] = some ([.int .i64 (placeOf (fun i => (l[i]?).any q) l.length)], [], []) := by
  have K := fun call dir f d st vs => callK_pure C call f d st dir g vs hio
  have h1 := hcap.lend
  have h2 := hcap.ptr g
  have h3 := hcap.ptrs
  have h4 := hcap.all
  rw [call_pure C (f := 189) (fn := Tryz.f189) (C_P ▸ Tryz.func189) rfl rfl]
  simp (config := { maxSteps := 10000000 }) [C_ty, ty3, ty38, ty61, ty63, C_live, C_keep, keep, live189_2, List.length_map] <;> (first | omega | (simp_all; done) | skip)
  rw [loop_stop C 189 (J := fun i => ⟨[(8, .int .i64 i), (7, .int .i64 l.length), (1, .fn g cap), (0, .arr 7 (l.map Ru.c))], [], []⟩) (n := l.length) (p := fun i => (l[i]?).any q) (h0 := ?h0) (step := ?step)]
  case h0 => simp (config := { maxSteps := 10000000 }) [C_ty, ty3, ty38, ty61, ty63, C_live, C_keep, keep, live189_2, h2] <;> (first | omega | (simp_all; done) | skip)
  case step =>
    intro i hi hp
    have hw := wrap_nat (i := i) (by omega)
    have hg := ru_get hi
    have hc := hq l[i] (List.getElem_mem hi)
    simp only [Ru.c] at hc
    have hne : q l[i] = false := by simpa [hi] using hp
    simp (config := { maxSteps := 10000000 }) [C_ty, ty3, ty38, ty61, ty63, C_live, C_keep, keep, live189_2, hi, hw, hg, Ru.c, hne, K, h1, h2, h3, h4, hc] <;> (first | omega | (simp_all; done) | skip)
  unfold placeOf
  generalize hs : stop (fun i => (l[i]?).any q) l.length = i
  have hle := stop_le (fun i => (l[i]?).any q) l.length
  rw [hs] at hle
  by_cases hi : i < l.length
  · have hp := stop_hit (p := fun i => (l[i]?).any q) (n := l.length) (by omega)
    rw [hs] at hp
    have hg := ru_get hi
    have he : q l[i] = true := by simpa [hi] using hp
    have hc := hq l[i] (List.getElem_mem hi)
    simp only [Ru.c] at hc
    simp (config := { maxSteps := 10000000 }) [C_ty, ty3, ty38, ty61, ty63, C_live, C_keep, keep, live189_2, hi, hg, Ru.c, he, K, h1, h2, h3, h4, hc] <;> (first | omega | (simp_all; done) | skip)
  · simp (config := { maxSteps := 10000000 }) [C_ty, ty3, ty38, ty61, ty63, C_live, C_keep, keep, live189_2, hi] <;> (first | omega | (simp_all; done) | skip)
theorem ContainsFuncR_c (l : List Ru) (g : FuncId) (cap : List PV) (q : Ru → Bool) (hio : C.io g = []) (hcap : capOk cap) (hl : l.length < 9223372036854775807) (hq : ∀ t ∈ l, call C g (.agg t.c :: cap) [] [] = some ([.bool (q t)], [], [])) :
    call C 138 [.arr 7 (l.map Ru.c), .fn g cap] [] [] = some ([.bool (l.any q)], [], []) := by
  have h1 := hcap.lend
  have h2 := hcap.ptr g
  have h3 := hcap.ptrs
  have hc := IndexFuncR_c l g cap q hio hcap hl hq
  rw [← place_any]
  rw [call_pure C (f := 138) (fn := Tryz.f138) (C_P ▸ Tryz.func138) rfl rfl]
  simp (config := { maxSteps := 10000000 }) [C_ty, ty3, ty38, ty63, ty175, K189, C_own, own, h1, h2, h3, hc] <;> (first | omega | (simp_all; done) | skip)
def isRule (r : Ru) : Bool := inB 0 1 r.e && inB (-1) 5 r.a && (decide (r.o = -1) || hasKind r.o 4) && r.x.isCond
theorem IsRule_c (r : Ru) (hx : r.x.size < 4611686018427387904) : call C 140 [.agg r.c] [] [] = some ([.bool (isRule r)], [], []) := by
  have hC := IsCond_c r.x hx
  simp only [Tr.c_eq] at hC
  rw [call_pure C (f := 140) (fn := Tryz.f140) (C_P ▸ Tryz.func140) rfl rfl]
  by_cases h0_ : inB 0 1 r.e = true
  · by_cases h1_ : inB (-1) 5 r.a = true
    · by_cases h2_ : r.o = -1
      · by_cases h3_ : hasKind r.o 4 = true
        · simp (config := { maxSteps := 10000000 }) [C_ty, ty3, ty59, ty61, ty63, K51, K106, K108, C_own, own, Ru.c, isRule, InRange_c, HasKind_c, hC, h0_, h1_, h2_, h3_] <;> (first | omega | (simp_all; done) | skip)
        · simp (config := { maxSteps := 10000000 }) [C_ty, ty3, ty59, ty61, ty63, K51, K106, K108, C_own, own, Ru.c, isRule, InRange_c, HasKind_c, hC, h0_, h1_, h2_, h3_] <;> (first | omega | (simp_all; done) | skip)
      · by_cases h3_ : hasKind r.o 4 = true
        · simp (config := { maxSteps := 10000000 }) [C_ty, ty3, ty59, ty61, ty63, K51, K106, K108, C_own, own, Ru.c, isRule, InRange_c, HasKind_c, hC, h0_, h1_, h2_, h3_] <;> (first | omega | (simp_all; done) | skip)
        · simp (config := { maxSteps := 10000000 }) [C_ty, ty3, ty59, ty61, ty63, K51, K106, K108, C_own, own, Ru.c, isRule, InRange_c, HasKind_c, hC, h0_, h1_, h2_, h3_] <;> (first | omega | (simp_all; done) | skip)
    · simp (config := { maxSteps := 10000000 }) [C_ty, ty3, ty59, ty61, ty63, K51, K106, K108, C_own, own, Ru.c, isRule, InRange_c, HasKind_c, hC, h0_, h1_] <;> (first | omega | (simp_all; done) | skip)
  · simp (config := { maxSteps := 10000000 }) [C_ty, ty3, ty59, ty61, ty63, K51, K106, K108, C_own, own, Ru.c, isRule, InRange_c, HasKind_c, hC, h0_] <;> (first | omega | (simp_all; done) | skip)
theorem sIsRule_c (r : Ru) (hx : r.x.size < 4611686018427387904) : call C 143 [.agg r.c] [] [] = some ([.bool (isRule r)], [], []) := by
  have hC := sIsCond_c r.x hx
  simp only [Tr.c_eq] at hC
  rw [call_pure C (f := 143) (fn := Tryz.f143) (C_P ▸ Tryz.func143) rfl rfl]
  by_cases h0_ : inB 0 1 r.e = true
  · by_cases h1_ : inB (-1) 5 r.a = true
    · by_cases h2_ : r.o = -1
      · by_cases h3_ : hasKind r.o 4 = true
        · simp (config := { maxSteps := 10000000 }) [C_ty, ty3, ty59, ty61, ty63, K132, K141, K168, C_own, own, Ru.c, isRule, l1In_c, sHasKind_c, hC, h0_, h1_, h2_, h3_] <;> (first | omega | (simp_all; done) | skip)
        · simp (config := { maxSteps := 10000000 }) [C_ty, ty3, ty59, ty61, ty63, K132, K141, K168, C_own, own, Ru.c, isRule, l1In_c, sHasKind_c, hC, h0_, h1_, h2_, h3_] <;> (first | omega | (simp_all; done) | skip)
      · by_cases h3_ : hasKind r.o 4 = true
        · simp (config := { maxSteps := 10000000 }) [C_ty, ty3, ty59, ty61, ty63, K132, K141, K168, C_own, own, Ru.c, isRule, l1In_c, sHasKind_c, hC, h0_, h1_, h2_, h3_] <;> (first | omega | (simp_all; done) | skip)
        · simp (config := { maxSteps := 10000000 }) [C_ty, ty3, ty59, ty61, ty63, K132, K141, K168, C_own, own, Ru.c, isRule, l1In_c, sHasKind_c, hC, h0_, h1_, h2_, h3_] <;> (first | omega | (simp_all; done) | skip)
    · simp (config := { maxSteps := 10000000 }) [C_ty, ty3, ty59, ty61, ty63, K132, K141, K168, C_own, own, Ru.c, isRule, l1In_c, sHasKind_c, hC, h0_, h1_] <;> (first | omega | (simp_all; done) | skip)
  · simp (config := { maxSteps := 10000000 }) [C_ty, ty3, ty59, ty61, ty63, K132, K141, K168, C_own, own, Ru.c, isRule, l1In_c, sHasKind_c, hC, h0_] <;> (first | omega | (simp_all; done) | skip)
def isPolicy (p : Po) : Bool := inB 0 999 p.v && decide ((p.rs.length : Int) ≤ 8) && !p.rs.any fun r => !isRule r
theorem IsPolicy_c (p : Po) (hl : p.rs.length < 9223372036854775807) (hx : ∀ r ∈ p.rs, r.x.size < 4611686018427387904) : call C 60 [.agg p.c] [] [] = some ([.bool (isPolicy p)], [], []) := by
  have hcl : ∀ r ∈ p.rs, call C 139 (.agg r.c :: []) [] [] = some ([.bool (!isRule r)], [], []) := by
    intro r hr
    have hc := IsRule_c r (hx r hr)
    simp only [Ru.c] at hc ⊢
    rw [call_pure C (f := 139) (fn := Tryz.f139) (C_P ▸ Tryz.func139) rfl rfl]
    simp (config := { maxSteps := 10000000 }) [C_ty, ty3, ty4, ty61, ty63, K140, C_own, own, hc] <;> (first | omega | (simp_all; done) | skip)
  have hf := ContainsFuncR_c p.rs 139 [] (fun r => !isRule r) rfl (fun c hc => by cases hc) hl hcl
  rw [call_pure C (f := 60) (fn := Tryz.f60) (C_P ▸ Tryz.func60) rfl rfl]
  by_cases h0_ : inB 0 999 p.v = true
  · by_cases h1_ : (p.rs.length : Int) ≤ 8
    · simp (config := { maxSteps := 10000000 }) [C_ty, ty3, ty4, ty38, ty40, ty63, ty175, K106, K138, K139, C_own, own, Po.c, isPolicy, InRange_c, hf, h0_, h1_] <;> (first | omega | (simp_all; done) | skip)
    · simp (config := { maxSteps := 10000000 }) [C_ty, ty3, ty4, ty38, ty40, ty63, ty175, K106, K138, K139, C_own, own, Po.c, isPolicy, InRange_c, hf, h0_, h1_] <;> (first | omega | (simp_all; done) | skip)
  · simp (config := { maxSteps := 10000000 }) [C_ty, ty3, ty4, ty38, ty40, ty63, ty175, K106, K138, K139, C_own, own, Po.c, isPolicy, InRange_c, hf, h0_] <;> (first | omega | (simp_all; done) | skip)
theorem sIsPolicy_c (p : Po) (hl : p.rs.length < 9223372036854775807) (hx : ∀ r ∈ p.rs, r.x.size < 4611686018427387904) : call C 62 [.agg p.c] [] [] = some ([.bool (isPolicy p)], [], []) := by
  obtain ⟨v, rs⟩ := p
  simp only at hl hx
  rw [call_pure C (f := 62) (fn := Tryz.f62) (C_P ▸ Tryz.func62) rfl rfl]
  simp (config := { maxSteps := 10000000 }) [C_ty, ty3, ty4, ty38, ty40, ty61, ty63, K132, K143, C_own, own, C_live, C_keep, keep, live62_2, Po.c] <;> (first | omega | (simp_all; done) | skip)
  rw [loop_stop C 62 (J := fun i => ⟨[(3, .int .i64 i), (1, .ptr 64 0)], [(64, [.int .i64 v, .arr 7 (rs.map Ru.c)])], []⟩) (n := rs.length) (p := fun i => (rs[i]?).any fun r => !isRule r) (h0 := ?h0) (step := ?step)]
  case h0 => simp (config := { maxSteps := 10000000 }) [C_ty, ty3, ty4, ty38, ty40, ty61, ty63, K132, K143, C_own, own, C_live, C_keep, keep, live62_2, Po.c] <;> (first | omega | (simp_all; done) | skip)
  case step =>
    intro i hi hp
    have hw := wrap_nat (i := i) (by omega)
    have hc := sIsRule_c rs[i] (hx _ (List.getElem_mem hi))
    simp only [Ru.c] at hc
    have hne : isRule rs[i] = true := by simpa [hi] using hp
    simp (config := { maxSteps := 10000000 }) [C_ty, ty3, ty4, ty38, ty40, ty61, ty63, K132, K143, C_own, own, C_live, C_keep, keep, live62_2, hi, hw, Ru.c, hc, hne] <;> (first | omega | (simp_all; done) | skip)
  have hany := place_any rs (fun r => !isRule r)
  unfold placeOf at hany
  have hle := stop_le (fun i => (rs[i]?).any fun r => !isRule r) rs.length
  have hhit := stop_hit (p := fun i => (rs[i]?).any fun r => !isRule r) (n := rs.length)
  generalize stop (fun i => (rs[i]?).any fun r => !isRule r) rs.length = i at *
  unfold isPolicy
  by_cases hi : i < rs.length
  · have he : isRule rs[i] = false := by simpa [hi] using hhit hi
    have hc := sIsRule_c rs[i] (hx _ (List.getElem_mem hi))
    simp only [Ru.c] at hc
    rw [if_pos hi] at hany
    have hany : (rs.any fun r => !isRule r) = true := by rw [← hany]; simp
    simp (config := { maxSteps := 10000000 }) [C_ty, ty3, ty4, ty38, ty40, ty61, ty63, K132, K143, C_own, own, C_live, C_keep, keep, live62_2, hi, Ru.c, hc, he, hany] <;> (first | omega | (simp_all; done) | skip)
  · rw [if_neg hi] at hany
    have hany : (rs.any fun r => !isRule r) = false := by rw [← hany]; rfl
    have hi' : i = rs.length := by omega
    subst hi'
    by_cases h0_ : inB 0 999 v = true
    · simp (config := { maxSteps := 10000000 }) [C_ty, ty3, ty4, ty38, ty40, ty61, ty63, K132, K143, C_own, own, C_live, C_keep, keep, live62_2, l1In_c, hany, h0_] <;> (first | omega | (simp_all; done) | skip)
    · simp (config := { maxSteps := 10000000 }) [C_ty, ty3, ty4, ty38, ty40, ty61, ty63, K132, K143, C_own, own, C_live, C_keep, keep, live62_2, l1In_c, hany, h0_] <;> (first | omega | (simp_all; done) | skip)
def isForB (r : Ru) (a o : Int) : Bool := (decide (r.a = -1) || decide (r.a = a)) && (decide (r.o = -1) || decide (r.o = o))
theorem IsFor_c (r : Ru) (a o : Int) : call C 63 [.agg r.c, .int .i64 a, .int .i64 o] [] [] = some ([.bool (isForB r a o)], [], []) := by
  rw [call_pure C (f := 63) (fn := Tryz.f63) (C_P ▸ Tryz.func63) rfl rfl]
  by_cases h0_ : r.a = -1
  · by_cases h1_ : r.o = -1
    · simp (config := { maxSteps := 10000000 }) [C_ty, ty3, ty61, ty63, Ru.c, isForB, h0_, h1_] <;> (first | omega | (simp_all; done) | skip)
    · simp (config := { maxSteps := 10000000 }) [C_ty, ty3, ty61, ty63, Ru.c, isForB, h0_, h1_] <;> (first | omega | (simp_all; done) | skip)
  · by_cases h1_ : r.a = a
    · by_cases h2_ : r.o = -1
      · simp (config := { maxSteps := 10000000 }) [C_ty, ty3, ty61, ty63, Ru.c, isForB, h0_, h1_, h2_] <;> (first | omega | (simp_all; done) | skip)
      · simp (config := { maxSteps := 10000000 }) [C_ty, ty3, ty61, ty63, Ru.c, isForB, h0_, h1_, h2_] <;> (first | omega | (simp_all; done) | skip)
    · simp (config := { maxSteps := 10000000 }) [C_ty, ty3, ty61, ty63, Ru.c, isForB, h0_, h1_] <;> (first | omega | (simp_all; done) | skip)
theorem sIsFor_c (r : Ru) (a o : Int) : call C 99 [.agg r.c, .int .i64 a, .int .i64 o] [] [] = some ([.bool (isForB r a o)], [], []) := by
  rw [call_pure C (f := 99) (fn := Tryz.f99) (C_P ▸ Tryz.func99) rfl rfl]
  by_cases h0_ : r.a = -1
  · by_cases h1_ : r.o = -1
    · simp (config := { maxSteps := 10000000 }) [C_ty, ty3, ty61, ty63, Ru.c, isForB, h0_, h1_] <;> (first | omega | (simp_all; done) | skip)
    · simp (config := { maxSteps := 10000000 }) [C_ty, ty3, ty61, ty63, Ru.c, isForB, h0_, h1_] <;> (first | omega | (simp_all; done) | skip)
  · by_cases h1_ : r.a = a
    · by_cases h2_ : r.o = -1
      · simp (config := { maxSteps := 10000000 }) [C_ty, ty3, ty61, ty63, Ru.c, isForB, h0_, h1_, h2_] <;> (first | omega | (simp_all; done) | skip)
      · simp (config := { maxSteps := 10000000 }) [C_ty, ty3, ty61, ty63, Ru.c, isForB, h0_, h1_, h2_] <;> (first | omega | (simp_all; done) | skip)
    · simp (config := { maxSteps := 10000000 }) [C_ty, ty3, ty61, ty63, Ru.c, isForB, h0_, h1_] <;> (first | omega | (simp_all; done) | skip)
/-- The rules that hold, by number. -/
def ruleHolds (l : List Inc) (s : List Fa) (q : Rq) (r : Ru) : Bool := isForB r q.a q.o && evalC l s r.x q
def upto (h : Nat → Bool) (n : Nat) : List Int := ((List.range n).filter h).map Int.ofNat
theorem upto_succ (h : Nat → Bool) (n : Nat) : upto h (n + 1) = if h n then upto h n ++ [(n : Int)] else upto h n := by
  unfold upto
  rw [List.range_succ, List.filter_append, List.map_append]
  cases e : h n <;> simp [e]
theorem upto_len (h : Nat → Bool) (n : Nat) : (upto h n).length ≤ n := by
  unfold upto
  rw [List.length_map]
  exact Nat.le_trans (List.length_filter_le _ _) (by simp)
def holding (l : List Inc) (s : List Fa) (p : Po) (q : Rq) : List Int := upto (fun i => (p.rs[i]?).any (ruleHolds l s q)) p.rs.length
theorem RulesThatHold_c (l : List Inc) (s : List Fa) (p : Po) (q : Rq) (hl : l.length < 9223372036854775807) (hs : s.length ≤ 1048576) (hp : p.rs.length ≤ 1048576) (hx : ∀ r ∈ p.rs, r.x.size < 4611686018427387904) : call C 35 [incs l, fas s, .agg p.c, .agg q.c] [] [] = some ([.oarr 3 (intRow (holding l s p q))], [], []) := by
  obtain ⟨v, rs⟩ := p
  simp only [incs, fas, Po.c, Rq.c, holding] at hp hx ⊢
  rw [call_pure C (f := 35) (fn := Tryz.f35) (C_P ▸ Tryz.func35) rfl rfl]
  simp (config := { maxSteps := 10000000 }) [C_ty, ty3, ty32, ty34, ty36, ty38, ty40, ty42, ty59, ty61, ty63, ty130, ty134, K47, K63, C_own, own, C_live, C_keep, keep, live35_3] <;> (first | omega | (simp_all; done) | skip)
  rw [loop_to C 35 (J := fun i => ⟨[(16, .int .i64 i), (15, .int .i64 rs.length), (14, .arr 7 (rs.map Ru.c)), (9, .ref 768 0 (upto (fun i => (rs[i]?).any (ruleHolds l s q)) i).length (upto (fun i => (rs[i]?).any (ruleHolds l s q)) i).length), (7, .ptr 448 0), (1, .arr 6 (s.map Fa.c)), (0, .arr 2 (l.map Inc.c))], [(448, [.int .i64 q.p, .int .i64 q.d, .int .i64 q.g, .int .i64 q.a, .int .i64 q.o, .int .i64 q.n])], [(768, ⟨false, (upto (fun i => (rs[i]?).any (ruleHolds l s q)) i).length, 3, intRow (upto (fun i => (rs[i]?).any (ruleHolds l s q)) i)⟩)]⟩) (n := rs.length) (h0 := ?h0) (step := ?step)]
  case h0 => simp (config := { maxSteps := 10000000 }) [C_ty, ty3, ty32, ty34, ty36, ty38, ty40, ty42, ty59, ty61, ty63, ty130, ty134, K47, K63, C_own, own, C_live, C_keep, keep, live35_3, upto, intRow] <;> (first | omega | (simp_all; done) | skip)
  case step =>
    intro i hi
    have hw := wrap_nat (i := i) (by omega)
    have hlen := upto_len (fun i => (rs[i]?).any (ruleHolds l s q)) i
    have hF := IsFor_c rs[i] q.a q.o
    have hE := EvalCond_c l s rs[i].x q hl hs (hx _ (List.getElem_mem hi))
    change _ = some ([PV.bool (evalC l s rs[i].x q)], [], []) at hE
    have hsz : ((upto (fun i => (rs[i]?).any (ruleHolds l s q)) i).length + 1) * 8 ≤ 140737488355328 := by omega
    have hii : intRow [(i : Int)] = [[.int .i64 (i : Int)]] := rfl
    have hu : (rs[i]?).any (ruleHolds l s q) = (isForB rs[i] q.a q.o && evalC l s rs[i].x q) := by rw [List.getElem?_eq_getElem hi]; rfl
    rw [upto_succ, hu]
    generalize upto (fun i => (rs[i]?).any (ruleHolds l s q)) i = L at *
    simp only [incs, fas, Ru.c, Rq.c, Tr.c_eq] at hF hE
    by_cases h0_ : isForB rs[i] q.a q.o = true
    · by_cases h1_ : evalC l s rs[i].x q = true
      · simp (config := { maxSteps := 10000000 }) [C_ty, ty3, ty32, ty34, ty36, ty38, ty40, ty42, ty59, ty61, ty63, ty130, ty134, K47, K63, C_own, own, C_live, C_keep, keep, live35_3, hi, hw, Ru.c, hF, hE, hsz, intRow_append, hii, h0_, h1_] <;> (first | omega | (simp_all; done) | skip)
      · simp (config := { maxSteps := 10000000 }) [C_ty, ty3, ty32, ty34, ty36, ty38, ty40, ty42, ty59, ty61, ty63, ty130, ty134, K47, K63, C_own, own, C_live, C_keep, keep, live35_3, hi, hw, Ru.c, hF, hE, hsz, intRow_append, hii, h0_, h1_] <;> (first | omega | (simp_all; done) | skip)
    · simp (config := { maxSteps := 10000000 }) [C_ty, ty3, ty32, ty34, ty36, ty38, ty40, ty42, ty59, ty61, ty63, ty130, ty134, K47, K63, C_own, own, C_live, C_keep, keep, live35_3, hi, hw, Ru.c, hF, hE, hsz, intRow_append, hii, h0_] <;> (first | omega | (simp_all; done) | skip)
  simp (config := { maxSteps := 10000000 }) [C_ty, ty3, ty32, ty34, ty36, ty38, ty40, ty42, ty59, ty61, ty63, ty130, ty134, K47, K63, C_own, own, C_live, C_keep, keep, live35_3] <;> (first | omega | (simp_all; done) | skip)
theorem sRulesThatHold_c (l : List Inc) (s : List Fa) (p : Po) (q : Rq) (hl : l.length < 9223372036854775807) (hs : s.length ≤ 1048576) (hp : p.rs.length ≤ 1048576) (hx : ∀ r ∈ p.rs, r.x.size < 4611686018427387904) : call C 38 [incs l, fas s, .agg p.c, .agg q.c] [] [] = some ([.oarr 3 (intRow (holding l s p q))], [], []) := by
  obtain ⟨v, rs⟩ := p
  simp only [incs, fas, Po.c, Rq.c, holding] at hp hx ⊢
  rw [call_pure C (f := 38) (fn := Tryz.f38) (C_P ▸ Tryz.func38) rfl rfl]
  simp (config := { maxSteps := 10000000 }) [C_ty, ty3, ty32, ty34, ty36, ty38, ty40, ty42, ty59, ty61, ty63, ty130, ty134, K99, K100, C_own, own, C_order, order, C_live, C_keep, keep, live38_3] <;> (first | omega | (simp_all; done) | skip)
  rw [loop_to C 38 (J := fun i => ⟨[(10, .int .i64 i), (9, .ref 704 0 (upto (fun i => (rs[i]?).any (ruleHolds l s q)) i).length (upto (fun i => (rs[i]?).any (ruleHolds l s q)) i).length), (7, .ptr 448 0), (6, .ptr 384 0), (1, .arr 6 (s.map Fa.c)), (0, .arr 2 (l.map Inc.c))], [(448, [.int .i64 q.p, .int .i64 q.d, .int .i64 q.g, .int .i64 q.a, .int .i64 q.o, .int .i64 q.n]), (384, [.int .i64 v, .arr 7 (rs.map Ru.c)])], [(704, ⟨false, (upto (fun i => (rs[i]?).any (ruleHolds l s q)) i).length, 3, intRow (upto (fun i => (rs[i]?).any (ruleHolds l s q)) i)⟩)]⟩) (n := rs.length) (h0 := ?h0) (step := ?step)]
  case h0 => simp (config := { maxSteps := 10000000 }) [C_ty, ty3, ty32, ty34, ty36, ty38, ty40, ty42, ty59, ty61, ty63, ty130, ty134, K99, K100, C_own, own, C_order, order, C_live, C_keep, keep, live38_3, upto, intRow] <;> (first | omega | (simp_all; done) | skip)
  case step =>
    intro i hi
    have hw := wrap_nat (i := i) (by omega)
    have hlen := upto_len (fun i => (rs[i]?).any (ruleHolds l s q)) i
    have hF := sIsFor_c rs[i] q.a q.o
    have hE := sEvalCond_c l s rs[i].x q hl hs (hx _ (List.getElem_mem hi))
    change _ = some ([PV.bool (evalC l s rs[i].x q)], [], []) at hE
    have hsz : ((upto (fun i => (rs[i]?).any (ruleHolds l s q)) i).length + 1) * 8 ≤ 140737488355328 := by omega
    have hii : intRow [(i : Int)] = [[.int .i64 (i : Int)]] := rfl
    have hu : (rs[i]?).any (ruleHolds l s q) = (isForB rs[i] q.a q.o && evalC l s rs[i].x q) := by rw [List.getElem?_eq_getElem hi]; rfl
    rw [upto_succ, hu]
    generalize upto (fun i => (rs[i]?).any (ruleHolds l s q)) i = L at *
    simp only [incs, fas, Ru.c, Rq.c, Tr.c_eq] at hF hE
    by_cases h0_ : isForB rs[i] q.a q.o = true
    · by_cases h1_ : evalC l s rs[i].x q = true
      · simp (config := { maxSteps := 10000000 }) [C_ty, ty3, ty32, ty34, ty36, ty38, ty40, ty42, ty59, ty61, ty63, ty130, ty134, K99, K100, C_own, own, C_order, order, C_live, C_keep, keep, live38_3, hi, hw, Ru.c, hF, hE, hsz, intRow_append, hii, h0_, h1_] <;> (first | omega | (simp_all; done) | skip)
      · simp (config := { maxSteps := 10000000 }) [C_ty, ty3, ty32, ty34, ty36, ty38, ty40, ty42, ty59, ty61, ty63, ty130, ty134, K99, K100, C_own, own, C_order, order, C_live, C_keep, keep, live38_3, hi, hw, Ru.c, hF, hE, hsz, intRow_append, hii, h0_, h1_] <;> (first | omega | (simp_all; done) | skip)
    · simp (config := { maxSteps := 10000000 }) [C_ty, ty3, ty32, ty34, ty36, ty38, ty40, ty42, ty59, ty61, ty63, ty130, ty134, K99, K100, C_own, own, C_order, order, C_live, C_keep, keep, live38_3, hi, hw, Ru.c, hF, hE, hsz, intRow_append, hii, h0_] <;> (first | omega | (simp_all; done) | skip)
  simp (config := { maxSteps := 10000000 }) [C_ty, ty3, ty32, ty34, ty36, ty38, ty40, ty42, ty59, ty61, ty63, ty130, ty134, K99, K100, C_own, own, C_order, order, C_live, C_keep, keep, live38_3] <;> (first | omega | (simp_all; done) | skip)
end Go.AI
/- Decisions. -/
namespace Go.AI
open Go Go.Proofs Rl
attribute [local congr] bind_left map_left guardOn_congr condOn_congr
attribute [local simp] call_pure start run_seq run_region run_draw arrange run_cond run_block exec_ret exec_exit exec_skip ite_bind ite_map opsW_nil opsW_cons opsW_guard doOp_move doOp_assign doOp_pick doOp_load doOp_nilCheck doOp_fieldAddr doOp_indexAddr doOp_index doOp_slice doOp_binOp doOp_not doOp_neg doOp_convert doOp_extract doOp_build doOp_makeFunc doOp_len doOp_min doOp_max doOp_field doOp_alloc doOp_box doOp_store doOp_buildSlice doOp_makeSlice doOp_append doOp_call cutMk ret tidy sift closed okCell cellsT headOf
set_option maxRecDepth 100000
set_option maxHeartbeats 4000000
set_option linter.unusedSimpArgs false
set_option linter.unusedVariables false
def effOf (rs : List Ru) (x : Int) : Int := ((rs[x.toNat]?).map Ru.e).getD 0
def decV (rs : List Ru) (L : List Int) : Int := if L.any (fun x => decide (effOf rs x = 0)) then 0 else if L.length = 0 then 0 else 1
theorem decided_c (p : Po) (L : List Int) (hlen : L.length < 9223372036854775807) (hL : ∀ x ∈ L, 0 ≤ x ∧ x < p.rs.length) (hR : ∀ r ∈ p.rs, r.e = 0 ∨ r.e = 1) : call C 110 [.agg p.c, .arr 1 (intRow L)] [] [] = some ([.int .i64 (decV p.rs L)], [], []) := by
  obtain ⟨v, rs⟩ := p
  simp only [Po.c] at hL hR ⊢
  rw [call_pure C (f := 110) (fn := Tryz.f110) (C_P ▸ Tryz.func110) rfl rfl]
  simp (config := { maxSteps := 10000000 }) [C_ty, ty3, ty32, ty38, ty40, ty61, ty63, C_live, C_keep, keep, live110_3, intRow] <;> (first | omega | (simp_all; done) | skip)
  rw [loop_stop C 110 (J := fun i => ⟨[(10, .int .i64 i), (9, .int .i64 L.length), (8, .arr 1 (intRow L)), (5, .int .i64 (if i = 0 then 0 else 1)), (2, .ptr 128 0)], [(128, [.int .i64 v, .arr 7 (rs.map Ru.c)])], []⟩) (n := L.length) (p := fun i => (L[i]?).any fun x => decide (effOf rs x = 0)) (h0 := ?h0) (step := ?step)]
  case h0 => simp (config := { maxSteps := 10000000 }) [C_ty, ty3, ty32, ty38, ty40, ty61, ty63, C_live, C_keep, keep, live110_3, intRow] <;> (first | omega | (simp_all; done) | skip)
  case step =>
    intro i hi hp
    have hw := wrap_nat (i := i) (by omega)
    have hb := hL L[i] (List.getElem_mem hi)
    have hb2 : L[i].toNat < rs.length := by omega
    have he : effOf rs L[i] = rs[L[i].toNat].e := by unfold effOf; rw [List.getElem?_eq_getElem hb2]; rfl
    have hne : ¬ effOf rs L[i] = 0 := by simpa [hi] using hp
    rw [he] at hne
    have h1 : rs[L[i].toNat].e = 1 := (hR _ (List.getElem_mem hb2)).resolve_left hne
    simp (config := { maxSteps := 10000000 }) [C_ty, ty3, ty32, ty38, ty40, ty61, ty63, C_live, C_keep, keep, live110_3, hi, hw, intRow, hb, hb2, Ru.c, h1] <;> (first | omega | (simp_all; done) | skip)
  have hany := place_any L (fun x => decide (effOf rs x = 0))
  unfold placeOf at hany
  have hle := stop_le (fun i => (L[i]?).any fun x => decide (effOf rs x = 0)) L.length
  have hhit := stop_hit (p := fun i => (L[i]?).any fun x => decide (effOf rs x = 0)) (n := L.length)
  generalize stop (fun i => (L[i]?).any fun x => decide (effOf rs x = 0)) L.length = i at *
  unfold decV
  by_cases hi : i < L.length
  · have hb := hL L[i] (List.getElem_mem hi)
    have hb2 : L[i].toNat < rs.length := by omega
    have he : effOf rs L[i] = rs[L[i].toNat].e := by unfold effOf; rw [List.getElem?_eq_getElem hb2]; rfl
    have h0 : effOf rs L[i] = 0 := by simpa [hi] using hhit hi
    rw [he] at h0
    rw [if_pos hi] at hany
    have hany : (L.any fun x => decide (effOf rs x = 0)) = true := by rw [← hany]; simp
    simp (config := { maxSteps := 10000000 }) [C_ty, ty3, ty32, ty38, ty40, ty61, ty63, C_live, C_keep, keep, live110_3, hi, intRow, hb, hb2, Ru.c, h0, hany] <;> (first | omega | (simp_all; done) | skip)
  · rw [if_neg hi] at hany
    have hany : (L.any fun x => decide (effOf rs x = 0)) = false := by rw [← hany]; rfl
    have hi' : i = L.length := by omega
    subst hi'
    simp (config := { maxSteps := 10000000 }) [C_ty, ty3, ty32, ty38, ty40, ty61, ty63, C_live, C_keep, keep, live110_3, hany] <;> (first | omega | (simp_all; done) | skip)
theorem holding_in (l : List Inc) (s : List Fa) (p : Po) (q : Rq) : ∀ x ∈ holding l s p q, 0 ≤ x ∧ x < p.rs.length := by
  intro x hx
  unfold holding upto at hx
  obtain ⟨i, hi, rfl⟩ := List.mem_map.1 hx
  have := List.mem_range.1 (List.mem_filter.1 hi).1
  simp only [Int.ofNat_eq_natCast]
  omega
theorem isPolicy_eff {p : Po} (h : isPolicy p = true) : ∀ r ∈ p.rs, r.e = 0 ∨ r.e = 1 := by
  intro r hr
  unfold isPolicy at h
  simp only [Bool.and_eq_true, Bool.not_eq_true', List.any_eq_false, Bool.not_eq_true] at h
  have h2 := h.2 r hr
  have h3 : isRule r = true := by simpa using h2
  unfold isRule at h3
  simp only [Bool.and_eq_true] at h3
  have := inB_iff.1 h3.1.1.1
  omega
def decideBy (l : List Inc) (s : List Fa) (p : Po) (q : Rq) : Int := if isReq q && isPolicy p then decV p.rs (holding l s p q) else 0
theorem DecideBy_c (l : List Inc) (s : List Fa) (p : Po) (q : Rq) (hl : l.length < 9223372036854775807) (hs : s.length ≤ 1048576) (hp : p.rs.length ≤ 1048576) (hx : ∀ r ∈ p.rs, r.x.size < 4611686018427387904) : call C 42 [incs l, fas s, .agg p.c, .agg q.c] [] [] = some ([.int .i64 (decideBy l s p q)], [], []) := by
  have h1 := IsRequest_c q
  have h2 := IsPolicy_c p (by omega) hx
  have h3 := RulesThatHold_c l s p q hl hs hp hx
  have hlen : (holding l s p q).length ≤ p.rs.length := upto_len _ _
  unfold decideBy
  by_cases c1 : isReq q = true
  · by_cases c2 : isPolicy p = true
    · have h4 := decided_c p (holding l s p q) (by omega) (holding_in l s p q) (isPolicy_eff c2)
      simp only [incs, fas, Po.c, Rq.c] at h1 h2 h3 h4 ⊢
      rw [call_pure C (f := 42) (fn := Tryz.f42) (C_P ▸ Tryz.func42) rfl rfl]
      simp (config := { maxSteps := 10000000 }) [C_ty, ty3, ty4, ty32, ty34, ty36, ty38, ty40, ty42, ty130, ty134, K35, K41, K60, K110, C_own, own, C_order, order, h1, h2, h3, h4, c1, c2] <;> (first | omega | (simp_all; done) | skip)
    · simp only [incs, fas, Po.c, Rq.c] at h1 h2 h3 ⊢
      rw [call_pure C (f := 42) (fn := Tryz.f42) (C_P ▸ Tryz.func42) rfl rfl]
      simp (config := { maxSteps := 10000000 }) [C_ty, ty3, ty4, ty32, ty34, ty36, ty38, ty40, ty42, ty130, ty134, K35, K41, K60, K110, C_own, own, C_order, order, h1, h2, h3, c1, c2] <;> (first | omega | (simp_all; done) | skip)
  · simp only [incs, fas, Po.c, Rq.c] at h1 h2 h3 ⊢
    rw [call_pure C (f := 42) (fn := Tryz.f42) (C_P ▸ Tryz.func42) rfl rfl]
    simp (config := { maxSteps := 10000000 }) [C_ty, ty3, ty4, ty32, ty34, ty36, ty38, ty40, ty42, ty130, ty134, K35, K41, K60, K110, C_own, own, C_order, order, h1, h2, h3, c1] <;> (first | omega | (simp_all; done) | skip)
theorem sDecideBy_c (l : List Inc) (s : List Fa) (p : Po) (q : Rq) (hl : l.length < 9223372036854775807) (hs : s.length ≤ 1048576) (hp : p.rs.length ≤ 1048576) (hx : ∀ r ∈ p.rs, r.x.size < 4611686018427387904) : call C 74 [incs l, fas s, .agg p.c, .agg q.c] [] [] = some ([.int .i64 (decideBy l s p q)], [], []) := by
  have h1 := sIsRequest_c q
  have h2 := sIsPolicy_c p (by omega) hx
  have h3 := sRulesThatHold_c l s p q hl hs hp hx
  have hlen : (holding l s p q).length ≤ p.rs.length := upto_len _ _
  have hL := holding_in l s p q
  unfold decideBy
  by_cases c1 : isReq q = true
  · by_cases c2 : isPolicy p = true
    · have hR := isPolicy_eff c2
      rw [c1, c2]
      rw [c1] at h1
      rw [c2] at h2
      generalize holding l s p q = L at *
      obtain ⟨v, rs⟩ := p
      simp only [incs, fas, Po.c, Rq.c] at h1 h2 h3 hL hR hp hlen ⊢
      rw [call_pure C (f := 74) (fn := Tryz.f74) (C_P ▸ Tryz.func74) rfl rfl]
      simp (config := { maxSteps := 10000000 }) [C_ty, ty3, ty4, ty32, ty34, ty36, ty38, ty40, ty42, ty61, ty63, ty130, ty134, K38, K61, K62, C_own, own, C_order, order, C_live, C_keep, keep, live74_5, h1, h2, h3] <;> (first | omega | (simp_all; done) | skip)
      rw [loop_stop C 74 (J := fun i => ⟨[(10, .int .i64 i), (9, .arr 1 (intRow L)), (6, .ptr 384 0)], [(384, [.int .i64 v, .arr 7 (rs.map Ru.c)])], []⟩) (n := L.length) (p := fun i => (L[i]?).any fun x => decide (effOf rs x = 0)) (h0 := ?h0) (step := ?step)]
      case h0 => simp (config := { maxSteps := 10000000 }) [C_ty, ty3, ty4, ty32, ty34, ty36, ty38, ty40, ty42, ty61, ty63, ty130, ty134, K38, K61, K62, C_own, own, C_order, order, C_live, C_keep, keep, live74_5, intRow] <;> (first | omega | (simp_all; done) | skip)
      case step =>
        intro i hi hp
        have hw := wrap_nat (i := i) (by omega)
        have hb := hL L[i] (List.getElem_mem hi)
        have hb2 : L[i].toNat < rs.length := by omega
        have he : effOf rs L[i] = rs[L[i].toNat].e := by unfold effOf; rw [List.getElem?_eq_getElem hb2]; rfl
        have hne : ¬ effOf rs L[i] = 0 := by simpa [hi] using hp
        rw [he] at hne
        simp (config := { maxSteps := 10000000 }) [C_ty, ty3, ty4, ty32, ty34, ty36, ty38, ty40, ty42, ty61, ty63, ty130, ty134, K38, K61, K62, C_own, own, C_order, order, C_live, C_keep, keep, live74_5, hi, hw, intRow, hb, hb2, Ru.c, hne] <;> (first | omega | (simp_all; done) | skip)
      have hany := place_any L (fun x => decide (effOf rs x = 0))
      unfold placeOf at hany
      have hle := stop_le (fun i => (L[i]?).any fun x => decide (effOf rs x = 0)) L.length
      have hhit := stop_hit (p := fun i => (L[i]?).any fun x => decide (effOf rs x = 0)) (n := L.length)
      generalize stop (fun i => (L[i]?).any fun x => decide (effOf rs x = 0)) L.length = i at *
      unfold decV
      by_cases hi : i < L.length
      · have hb := hL L[i] (List.getElem_mem hi)
        have hb2 : L[i].toNat < rs.length := by omega
        have he : effOf rs L[i] = rs[L[i].toNat].e := by unfold effOf; rw [List.getElem?_eq_getElem hb2]; rfl
        have h0 : effOf rs L[i] = 0 := by simpa [hi] using hhit hi
        rw [he] at h0
        rw [if_pos hi] at hany
        have hany : (L.any fun x => decide (effOf rs x = 0)) = true := by rw [← hany]; simp
        simp (config := { maxSteps := 10000000 }) [C_ty, ty3, ty4, ty32, ty34, ty36, ty38, ty40, ty42, ty61, ty63, ty130, ty134, K38, K61, K62, C_own, own, C_order, order, C_live, C_keep, keep, live74_5, hi, intRow, hb, hb2, Ru.c, h0, hany] <;> (first | omega | (simp_all; done) | skip)
      · rw [if_neg hi] at hany
        have hany : (L.any fun x => decide (effOf rs x = 0)) = false := by rw [← hany]; rfl
        have hi' : i = L.length := by omega
        subst hi'
        by_cases h0_ : L.length = 0
        · simp (config := { maxSteps := 10000000 }) [C_ty, ty3, ty4, ty32, ty34, ty36, ty38, ty40, ty42, ty61, ty63, ty130, ty134, K38, K61, K62, C_own, own, C_order, order, C_live, C_keep, keep, live74_5, hany, intRow, h0_] <;> (first | omega | (simp_all; done) | skip)
        · simp (config := { maxSteps := 10000000 }) [C_ty, ty3, ty4, ty32, ty34, ty36, ty38, ty40, ty42, ty61, ty63, ty130, ty134, K38, K61, K62, C_own, own, C_order, order, C_live, C_keep, keep, live74_5, hany, intRow, h0_] <;> (first | omega | (simp_all; done) | skip)
    · simp only [incs, fas, Po.c, Rq.c] at h1 h2 h3 ⊢
      rw [call_pure C (f := 74) (fn := Tryz.f74) (C_P ▸ Tryz.func74) rfl rfl]
      simp (config := { maxSteps := 10000000 }) [C_ty, ty3, ty4, ty32, ty34, ty36, ty38, ty40, ty42, ty61, ty63, ty130, ty134, K38, K61, K62, C_own, own, C_order, order, C_live, C_keep, keep, live74_5, h1, h2, h3, c1, c2] <;> (first | omega | (simp_all; done) | skip)
  · simp only [incs, fas, Po.c, Rq.c] at h1 h2 h3 ⊢
    rw [call_pure C (f := 74) (fn := Tryz.f74) (C_P ▸ Tryz.func74) rfl rfl]
    simp (config := { maxSteps := 10000000 }) [C_ty, ty3, ty4, ty32, ty34, ty36, ty38, ty40, ty42, ty61, ty63, ty130, ty134, K38, K61, K62, C_own, own, C_order, order, C_live, C_keep, keep, live74_5, h1, h2, h3, c1] <;> (first | omega | (simp_all; done) | skip)
end Go.AI
/- Copies, sizes and equality of rules and policies. -/
namespace Go.AI
open Go Go.Proofs Rl
attribute [local congr] bind_left map_left guardOn_congr condOn_congr
attribute [local simp] call_pure start run_seq run_region run_draw arrange run_cond run_block exec_ret exec_exit exec_skip ite_bind ite_map opsW_nil opsW_cons opsW_guard doOp_move doOp_assign doOp_pick doOp_load doOp_nilCheck doOp_fieldAddr doOp_indexAddr doOp_index doOp_slice doOp_binOp doOp_not doOp_neg doOp_convert doOp_extract doOp_build doOp_makeFunc doOp_len doOp_min doOp_max doOp_field doOp_alloc doOp_box doOp_store doOp_buildSlice doOp_makeSlice doOp_append doOp_call cutMk ret tidy sift closed okCell cellsT headOf
set_option maxRecDepth 100000
set_option maxHeartbeats 4000000
set_option linter.unusedSimpArgs false
set_option linter.unusedVariables false
theorem toRule_c (r : Ru) (h : r.x.size ≤ 1048577) : call C 158 [.agg r.c] [] [] = some ([.agg r.c], [], []) := by
  have hc := toCond_c r.x h
  simp only [Tr.c_eq] at hc
  rw [call_pure C (f := 158) (fn := Tryz.f158) (C_P ▸ Tryz.func158) rfl rfl]
  simp (config := { maxSteps := 10000000 }) [C_ty, ty3, ty59, ty61, ty63, ty86, ty88, ty189, K57, C_own, own, Ru.c, hc] <;> (first | omega | (simp_all; done) | skip)
theorem eqRule_c (r : Ru) (h : r.x.fine) : call C 159 [.agg r.c, .agg r.c] [] [] = some ([.bool true], [], []) := by
  have hc := eqCond_c r.x h
  simp only [Tr.c_eq] at hc
  rw [call_pure C (f := 159) (fn := Tryz.f159) (C_P ▸ Tryz.func159) rfl rfl]
  simp (config := { maxSteps := 10000000 }) [C_ty, ty3, ty4, ty59, ty61, ty63, K58, C_own, own, Ru.c, hc] <;> (first | omega | (simp_all; done) | skip)
theorem szRule_c (r : Ru) (h : r.x.fine) (n : Int) (hn : 0 ≤ n) (hn2 : n < 4611686018427387904) : call C 157 [.agg r.c, .int .i64 n] [] [] = some ([.int .i64 (r.x.leave n)], [], []) := by
  have hc := szCond_c r.x h n hn hn2
  by_cases h0 : n + 1 < r.x.size
  · rw [Tr.leave, if_pos h0] at hc ⊢
    simp only [Tr.c_eq] at hc
    rw [call_pure C (f := 157) (fn := Tryz.f157) (C_P ▸ Tryz.func157) rfl rfl]
    simp (config := { maxSteps := 10000000 }) [C_ty, ty3, ty86, ty88, ty189, K55, C_own, own, Ru.c, hc] <;> (first | omega | (simp_all; done) | skip)
  · rw [Tr.leave, if_neg h0] at hc ⊢
    have h1 : ¬ n + 1 - (r.x.size : Int) < 0 := by omega
    simp only [Tr.c_eq] at hc
    rw [call_pure C (f := 157) (fn := Tryz.f157) (C_P ▸ Tryz.func157) rfl rfl]
    simp (config := { maxSteps := 10000000 }) [C_ty, ty3, ty86, ty88, ty189, K55, C_own, own, Ru.c, hc, h1] <;> (first | omega | (simp_all; done) | skip)
theorem szRuleS_c (rl : List Ru) (hl : rl.length < 9223372036854775808) (hfine : ∀ r ∈ rl, r.x.fine) (n : Int) (hn : 0 ≤ n) (hn2 : n < 4611686018427387904) : call C 84 [.arr 7 (rl.map Ru.c), .int .i64 n] [] [] = some ([.int .i64 (Tr.leaves (rl.map Ru.x) n)], [], []) := by
  obtain ⟨l, hlx⟩ : ∃ l, rl.map Ru.x = l := ⟨_, rfl⟩
  have hll : l.length = rl.length := by rw [← hlx]; simp
  have hli : ∀ i (h : i < rl.length), l[i]'(by omega) = rl[i].x := by subst hlx; intro i h; simp
  rw [hlx]
  have hw : IntKind.i64.wrap (n - rl.length) = n - rl.length := wrap_small (by omega) (by omega)
  have hlen := Tr.len_le l
  by_cases h0 : n < rl.length
  · have : Tr.leaves l n = -1 := by unfold Tr.leaves; rw [if_pos (by omega)]
    rw [call_pure C (f := 84) (fn := Tryz.f84) (C_P ▸ Tryz.func84) rfl rfl]
    simp (config := { maxSteps := 10000000 }) [C_ty, ty3, ty24, ty88, ty189, K157, C_own, own, C_live, C_keep, keep, live84_5, hw, hll, h0, this] <;> (first | omega | (simp_all; done) | skip)
  rw [call_pure C (f := 84) (fn := Tryz.f84) (C_P ▸ Tryz.func84) rfl rfl]
  simp (config := { maxSteps := 10000000 }) [C_ty, ty3, ty24, ty88, ty189, K157, C_own, own, C_live, C_keep, keep, live84_5, hw, hll, h0] <;> (first | omega | (simp_all; done) | skip)
  rw [loop_stop C 84 (J := fun i => ⟨[(5, .int .i64 i), (1, .int .i64 (Tr.after l n i)), (0, .arr 7 (rl.map Ru.c))], [], []⟩) (n := rl.length) (p := fun i => decide (Tr.after l n (i + 1) < 0)) (h0 := ?h0) (step := ?step)]
  case h0 => simp (config := { maxSteps := 10000000 }) [C_ty, ty3, ty24, ty88, ty189, K157, C_own, own, C_live, C_keep, keep, live84_5, Tr.after, Tr.sizes] <;> (first | omega | (simp_all; done) | skip)
  case step =>
    intro i hi' hp
    have hi : i < rl.length := hi'
    have hil : i < l.length := by omega
    have hw2 := wrap_nat (i := i) (by omega)
    have hp : ¬ Tr.after l n (i + 1) < 0 := by simpa using hp
    have ha := Tr.after_le l n i (by omega)
    have hs := Tr.size_pos l[i]
    have e := Tr.after_succ (n := n) (l := l) (i := i) (by omega)
    have hc := szRule_c rl[i] (hfine _ (List.getElem_mem hi)) (Tr.after l n i) (by omega) (by omega)
    rw [← hli i hi, Tr.leave, if_neg (by omega), ← e] at hc
    simp only [Ru.c] at hc
    simp (config := { maxSteps := 10000000 }) [C_ty, ty3, ty24, ty88, ty189, K157, C_own, own, C_live, C_keep, keep, live84_5, hi, hw2, hll, Ru.c, hc, hp] <;> (first | omega | (simp_all; done) | skip)
  have hle := stop_le (fun i => decide (Tr.after l n (i + 1) < 0)) rl.length
  have hhit := stop_hit (p := fun i => decide (Tr.after l n (i + 1) < 0)) (n := rl.length)
  have hbef := fun j => stop_before (p := fun i => decide (Tr.after l n (i + 1) < 0)) (n := rl.length) (j := j)
  generalize stop (fun i => decide (Tr.after l n (i + 1) < 0)) rl.length = i at *
  have hnn : 0 ≤ Tr.after l n i := by
    cases i with
    | zero => simp [Tr.after, Tr.sizes]; omega
    | succ j =>
      have := hbef j (by omega)
      simp only [decide_eq_false_iff_not] at this
      omega
  have ha := Tr.after_le l n i (by omega)
  by_cases hi : i < rl.length
  · have hp : Tr.after l n (i + 1) < 0 := by simpa using hhit hi
    have e := Tr.after_succ (n := n) (l := l) (i := i) (by omega)
    have hs := Tr.size_pos l[i]
    have hc := szRule_c rl[i] (hfine _ (List.getElem_mem hi)) (Tr.after l n i) hnn (by omega)
    rw [← hli i hi, Tr.leave, if_pos (by omega)] at hc
    simp only [Ru.c] at hc
    have hr := Tr.sizes_rest l (i + 1) (by omega)
    have : Tr.leaves l n = -1 := by
      unfold Tr.leaves
      unfold Tr.after at hp
      rw [if_pos (by omega)]
    simp (config := { maxSteps := 10000000 }) [C_ty, ty3, ty24, ty88, ty189, K157, C_own, own, C_live, C_keep, keep, live84_5, hi, hll, Ru.c, hc, this] <;> (first | omega | (simp_all; done) | skip)
  · obtain rfl : i = rl.length := by omega
    have : Tr.leaves l n = Tr.after l n rl.length := by
      unfold Tr.leaves
      unfold Tr.after at hnn ⊢
      rw [← hll, List.take_length] at hnn ⊢
      rw [if_neg (by omega)]
      omega
    simp (config := { maxSteps := 10000000 }) [C_ty, ty3, ty24, ty88, ty189, K157, C_own, own, C_live, C_keep, keep, live84_5, hll, this] <;> (first | omega | (simp_all; done) | skip)
theorem eqRuleS_c (l : List Ru) (hl : l.length < 9223372036854775808) (hf : ∀ r ∈ l, r.x.fine) : call C 92 [.arr 7 (l.map Ru.c), .arr 7 (l.map Ru.c)] [] [] = some ([.bool true], [], []) := by
  rw [call_pure C (f := 92) (fn := Tryz.f92) (C_P ▸ Tryz.func92) rfl rfl]
  simp (config := { maxSteps := 10000000 }) [C_ty, ty3, ty4, ty38, ty61, ty63, K159, C_own, own, C_order, order, C_live, C_keep, keep, live92_4] <;> (first | omega | (simp_all; done) | skip)
  rw [loop_to C 92 (J := fun i => ⟨[(5, .int .i64 i), (1, .arr 7 (l.map Ru.c)), (0, .arr 7 (l.map Ru.c))], [], []⟩) (n := l.length) (h0 := ?h0) (step := ?step)]
  case h0 => simp (config := { maxSteps := 10000000 }) [C_ty, ty3, ty4, ty38, ty61, ty63, K159, C_own, own, C_order, order, C_live, C_keep, keep, live92_4] <;> (first | omega | (simp_all; done) | skip)
  case step =>
    intro i hi
    have hw := wrap_nat (i := i) (by omega)
    have hc := eqRule_c l[i] (hf _ (List.getElem_mem hi))
    simp only [Ru.c] at hc
    simp (config := { maxSteps := 10000000 }) [C_ty, ty3, ty4, ty38, ty61, ty63, K159, C_own, own, C_order, order, C_live, C_keep, keep, live92_4, hi, hw, Ru.c, hc] <;> (first | omega | (simp_all; done) | skip)
  simp (config := { maxSteps := 10000000 }) [C_ty, ty3, ty4, ty38, ty61, ty63, K159, C_own, own, C_order, order, C_live, C_keep, keep, live92_4] <;> (first | omega | (simp_all; done) | skip)
def zeroRu : List PV := [.int .i64 0, .int .i64 0, .int .i64 0, .int .i64 0, .int .i64 0, .int .i64 0, .nil]
theorem toRuleS_c (l : List Ru) (hl : l.length ≤ 1048576) (hx : ∀ r ∈ l, r.x.size ≤ 1048577) : call C 88 [.arr 7 (l.map Ru.c)] [] [] = some ([.oarr 63 (l.map Ru.c)], [], []) := by
  have hsz : (l.length : Int) * 72 ≤ 281474976710656 := by omega
  rw [call_pure C (f := 88) (fn := Tryz.f88) (C_P ▸ Tryz.func88) rfl rfl]
  simp (config := { maxSteps := 10000000 }) [C_ty, ty3, ty24, ty38, ty61, ty63, ty88, ty189, K158, C_own, own, C_live, C_keep, keep, live88_3, hsz] <;> (first | omega | (simp_all; done) | skip)
  rw [loop_to C 88 (J := fun i => ⟨[(4, .int .i64 i), (3, .ref 448 0 l.length l.length), (0, .arr 7 (l.map Ru.c))], [], [(448, ⟨false, l.length, 63, part (l.map Ru.c) zeroRu i⟩)]⟩) (n := l.length) (h0 := ?h0) (step := ?step)]
  case h0 =>
    have hpz := part_zero (l.map Ru.c) zeroRu
    rw [List.length_map] at hpz
    simp (config := { maxSteps := 10000000 }) [C_ty, ty3, ty24, ty38, ty61, ty63, ty88, ty189, K158, C_own, own, C_live, C_keep, keep, live88_3, part, zeroRu] <;> (first | omega | (simp_all; done) | skip)
  case step =>
    intro i hi
    have hw := wrap_nat (i := i) (by omega)
    have hc := toRule_c l[i] (hx _ (List.getElem_mem hi))
    have hi' : i < (l.map Ru.c).length := by simpa using hi
    have hp := part_set (l.map Ru.c) zeroRu hi' (v := Ru.c l[i]) (by simp)
    have hg := part_at (l.map Ru.c) zeroRu hi'
    have hpl := part_len (l.map Ru.c) zeroRu (Nat.le_of_lt hi')
    rw [List.length_map] at hpl
    have hzl : zeroRu.length = 7 := rfl
    have hzd : zeroRu.drop 7 = [] := rfl
    simp only [Ru.c] at hc
    simp only [show Ru.c l[i] = [.int .i64 l[i].e, .int .i64 l[i].a, .int .i64 l[i].o, .int .i64 l[i].x.op, .int .i64 l[i].x.a, .int .i64 l[i].x.b, .arr 4 (Tr.cs l[i].x.ts)] from rfl] at hp
    have hgc : (l.map Ru.c)[i]'hi' = [.int .i64 l[i].e, .int .i64 l[i].a, .int .i64 l[i].o, .int .i64 l[i].x.op, .int .i64 l[i].x.a, .int .i64 l[i].x.b, .arr 4 (Tr.cs l[i].x.ts)] := by simp [Ru.c]
    generalize hLg : l.map Ru.c = R at *
    have hRl : R.length = l.length := by rw [← hLg]; simp
    simp (config := { maxSteps := 10000000 }) [C_ty, ty3, ty24, ty38, ty61, ty63, ty88, ty189, K158, C_own, own, C_live, C_keep, keep, live88_3, hi, hw, hRl, hgc, hc, hp, hg, hpl, hzl, hzd] <;> (first | omega | (simp_all; done) | skip)
  have hall := part_all (l.map Ru.c) zeroRu
  rw [List.length_map] at hall
  rw [hall]
  simp (config := { maxSteps := 10000000 }) [C_ty, ty3, ty24, ty38, ty61, ty63, ty88, ty189, K158, C_own, own, C_live, C_keep, keep, live88_3] <;> (first | omega | (simp_all; done) | skip)
/-- No list of the policy is too long. -/
def Po.fine (p : Po) : Prop := p.rs.length < 9223372036854775808 ∧ ∀ r ∈ p.rs, r.x.fine
def Po.size (p : Po) : Nat := Tr.sizes (p.rs.map Ru.x)
theorem Po.size_len (p : Po) : p.rs.length ≤ p.size := by
  have := Tr.len_le (p.rs.map Ru.x)
  rwa [List.length_map] at this
theorem Po.size_mem {p : Po} {r : Ru} (h : r ∈ p.rs) : r.x.size ≤ p.size := Tr.size_mem (List.mem_map_of_mem h)
theorem szPolicy_c (p : Po) (hf : p.fine) (n : Int) (hn : 0 ≤ n) (hn2 : n < 4611686018427387904) : call C 17 [.agg p.c, .int .i64 n] [] [] = some ([.int .i64 (if n < p.size then -1 else n - p.size)], [], []) := by
  have hS := szRuleS_c p.rs hf.1 hf.2 n hn hn2
  change _ = some ([PV.int .i64 (if n < (p.size : Int) then -1 else n - (p.size : Int))], [], []) at hS
  by_cases h : n < p.size
  · rw [if_pos h] at hS
    rw [if_pos h]
    rw [call_pure C (f := 17) (fn := Tryz.f17) (C_P ▸ Tryz.func17) rfl rfl]
    simp (config := { maxSteps := 10000000 }) [C_ty, ty3, ty24, ty26, ty189, K84, C_own, own, Po.c, hS] <;> (first | omega | (simp_all; done) | skip)
  · rw [if_neg h] at hS
    rw [if_neg h]
    have h' : ¬ n - (p.size : Int) < 0 := by omega
    rw [call_pure C (f := 17) (fn := Tryz.f17) (C_P ▸ Tryz.func17) rfl rfl]
    simp (config := { maxSteps := 10000000 }) [C_ty, ty3, ty24, ty26, ty189, K84, C_own, own, Po.c, hS, h'] <;> (first | omega | (simp_all; done) | skip)
theorem eqPolicy_c (p : Po) (hf : p.fine) : call C 27 [.agg p.c, .agg p.c] [] [] = some ([.bool true], [], []) := by
  have hS := eqRuleS_c p.rs hf.1 hf.2
  rw [call_pure C (f := 27) (fn := Tryz.f27) (C_P ▸ Tryz.func27) rfl rfl]
  simp (config := { maxSteps := 10000000 }) [C_ty, ty3, ty4, ty38, ty40, ty63, K92, C_own, own, Po.c, hS] <;> (first | omega | (simp_all; done) | skip)
theorem toPolicy_c (p : Po) (h : p.size ≤ 1048576) : call C 21 [.agg p.c] [] [] = some ([.agg p.c], [], []) := by
  have h1 := p.size_len
  have hS := toRuleS_c p.rs (by omega) (fun r hr => by have := Po.size_mem hr; omega)
  rw [call_pure C (f := 21) (fn := Tryz.f21) (C_P ▸ Tryz.func21) rfl rfl]
  simp (config := { maxSteps := 10000000 }) [C_ty, ty3, ty24, ty26, ty38, ty40, ty63, ty189, K88, C_own, own, Po.c, hS] <;> (first | omega | (simp_all; done) | skip)
end Go.AI
/- Facts that are kept; what suffices. -/
namespace Go.AI
open Go Go.Proofs Rl
attribute [local congr] bind_left map_left guardOn_congr condOn_congr
attribute [local simp] call_pure start run_seq run_region run_draw arrange run_cond run_block exec_ret exec_exit exec_skip ite_bind ite_map opsW_nil opsW_cons opsW_guard doOp_move doOp_assign doOp_pick doOp_load doOp_nilCheck doOp_fieldAddr doOp_indexAddr doOp_index doOp_slice doOp_binOp doOp_not doOp_neg doOp_convert doOp_extract doOp_build doOp_makeFunc doOp_len doOp_min doOp_max doOp_field doOp_alloc doOp_box doOp_store doOp_buildSlice doOp_makeSlice doOp_append doOp_call cutMk ret tidy sift closed okCell cellsT headOf
set_option maxRecDepth 100000
set_option maxHeartbeats 4000000
set_option linter.unusedSimpArgs false
set_option linter.unusedVariables false
def onlyTo (s : List Fa) (k : List Int) : Nat → List Fa
  | 0 => []
  | n + 1 => if k.contains (n : Int) then onlyTo s k n ++ (s[n]?).toList else onlyTo s k n
theorem onlyTo_len (s : List Fa) (k : List Int) : ∀ n, (onlyTo s k n).length ≤ n
  | 0 => by simp [onlyTo]
  | n + 1 => by
    have := onlyTo_len s k n
    rw [onlyTo]
    split
    · rw [List.length_append]
      have : (s[n]?).toList.length ≤ 1 := by cases s[n]? <;> simp
      omega
    · omega
theorem OnlyFacts_c (s : List Fa) (k : List Int) (hs : s.length ≤ 1048576) (hk : k.length < 9223372036854775807) : call C 48 [.arr 6 (s.map Fa.c), .arr 1 (intRow k)] [] [] = some ([.oarr 134 ((onlyTo s k s.length).map Fa.c)], [], []) := by
  rw [call_pure C (f := 48) (fn := Tryz.f48) (C_P ▸ Tryz.func48) rfl rfl]
  simp (config := { maxSteps := 10000000 }) [C_ty, ty3, ty32, ty36, ty134, K122, C_own, own, C_live, C_keep, keep, live48_3] <;> (first | omega | (simp_all; done) | skip)
  rw [loop_to C 48 (J := fun i => ⟨[(11, .int .i64 i), (10, .int .i64 s.length), (9, .arr 6 (s.map Fa.c)), (5, .ref 512 0 (onlyTo s k i).length (onlyTo s k i).length), (1, .arr 1 (intRow k))], [], [(512, ⟨false, (onlyTo s k i).length, 134, (onlyTo s k i).map Fa.c⟩)]⟩) (n := s.length) (h0 := ?h0) (step := ?step)]
  case h0 => simp (config := { maxSteps := 10000000 }) [C_ty, ty3, ty32, ty36, ty134, K122, C_own, own, C_live, C_keep, keep, live48_3, onlyTo] <;> (first | omega | (simp_all; done) | skip)
  case step =>
    intro i hi
    have hw := wrap_nat (i := i) (by omega)
    have hlen := onlyTo_len s k i
    have hC := Contains_c k i hk
    have hsz : ((onlyTo s k i).length + 1) * 48 ≤ 140737488355328 := by omega
    have hg : (s[i]?).toList = [s[i]] := by rw [List.getElem?_eq_getElem hi]; rfl
    rw [onlyTo, hg]
    generalize onlyTo s k i = L at *
    generalize k.contains (i : Int) = b at *
    by_cases h0_ : b = true
    · simp (config := { maxSteps := 10000000 }) [C_ty, ty3, ty32, ty36, ty134, K122, C_own, own, C_live, C_keep, keep, live48_3, hi, hw, Fa.c, hC, hsz, h0_] <;> (first | omega | (simp_all; done) | skip)
    · simp (config := { maxSteps := 10000000 }) [C_ty, ty3, ty32, ty36, ty134, K122, C_own, own, C_live, C_keep, keep, live48_3, hi, hw, Fa.c, hC, hsz, h0_] <;> (first | omega | (simp_all; done) | skip)
  simp (config := { maxSteps := 10000000 }) [C_ty, ty3, ty32, ty36, ty134, K122, C_own, own, C_live, C_keep, keep, live48_3] <;> (first | omega | (simp_all; done) | skip)
theorem sOnlyFacts_c (s : List Fa) (k : List Int) (hs : s.length ≤ 1048576) (hk : k.length < 9223372036854775807) : call C 155 [.arr 6 (s.map Fa.c), .arr 1 (intRow k)] [] [] = some ([.oarr 134 ((onlyTo s k s.length).map Fa.c)], [], []) := by
  rw [call_pure C (f := 155) (fn := Tryz.f155) (C_P ▸ Tryz.func155) rfl rfl]
  simp (config := { maxSteps := 10000000 }) [C_ty, ty3, ty32, ty36, ty134, K156, C_own, own, C_live, C_keep, keep, live155_3] <;> (first | omega | (simp_all; done) | skip)
  rw [loop_to C 155 (J := fun i => ⟨[(6, .int .i64 i), (5, .ref 448 0 (onlyTo s k i).length (onlyTo s k i).length), (1, .arr 1 (intRow k)), (0, .arr 6 (s.map Fa.c))], [], [(448, ⟨false, (onlyTo s k i).length, 134, (onlyTo s k i).map Fa.c⟩)]⟩) (n := s.length) (h0 := ?h0) (step := ?step)]
  case h0 => simp (config := { maxSteps := 10000000 }) [C_ty, ty3, ty32, ty36, ty134, K156, C_own, own, C_live, C_keep, keep, live155_3, onlyTo] <;> (first | omega | (simp_all; done) | skip)
  case step =>
    intro i hi
    have hw := wrap_nat (i := i) (by omega)
    have hlen := onlyTo_len s k i
    have hC := l13Has_c k i hk
    have hsz : ((onlyTo s k i).length + 1) * 48 ≤ 140737488355328 := by omega
    have hg : (s[i]?).toList = [s[i]] := by rw [List.getElem?_eq_getElem hi]; rfl
    rw [onlyTo, hg]
    generalize onlyTo s k i = L at *
    generalize k.contains (i : Int) = b at *
    by_cases h0_ : b = true
    · simp (config := { maxSteps := 10000000 }) [C_ty, ty3, ty32, ty36, ty134, K156, C_own, own, C_live, C_keep, keep, live155_3, hi, hw, Fa.c, hC, hsz, h0_] <;> (first | omega | (simp_all; done) | skip)
    · simp (config := { maxSteps := 10000000 }) [C_ty, ty3, ty32, ty36, ty134, K156, C_own, own, C_live, C_keep, keep, live155_3, hi, hw, Fa.c, hC, hsz, h0_] <;> (first | omega | (simp_all; done) | skip)
  simp (config := { maxSteps := 10000000 }) [C_ty, ty3, ty32, ty36, ty134, K156, C_own, own, C_live, C_keep, keep, live155_3] <;> (first | omega | (simp_all; done) | skip)
def suffices_ (l : List Inc) (s : List Fa) (p : Po) (q : Rq) (k : List Int) : Bool := decide (decideBy l (onlyTo s k s.length) p q = decideBy l s p q)
theorem Suffices_c (l : List Inc) (s : List Fa) (p : Po) (q : Rq) (k : List Int) (hl : l.length < 9223372036854775807) (hs : s.length ≤ 1048576) (hp : p.rs.length ≤ 1048576) (hx : ∀ r ∈ p.rs, r.x.size < 4611686018427387904) (hk : k.length < 9223372036854775807) : call C 81 [incs l, fas s, .agg p.c, .agg q.c, .arr 1 (intRow k)] [] [] = some ([.bool (suffices_ l s p q k)], [], []) := by
  have h1 := OnlyFacts_c s k hs hk
  have hlen := onlyTo_len s k s.length
  have h2 := DecideBy_c l (onlyTo s k s.length) p q hl (by omega) hp hx
  have h3 := DecideBy_c l s p q hl hs hp hx
  unfold suffices_
  generalize decideBy l (onlyTo s k s.length) p q = a at *
  generalize decideBy l s p q = b at *
  generalize onlyTo s k s.length = s' at *
  simp only [incs, fas, Po.c, Rq.c] at h1 h2 h3 ⊢
  rw [call_pure C (f := 81) (fn := Tryz.f81) (C_P ▸ Tryz.func81) rfl rfl]
  simp (config := { maxSteps := 10000000 }) [C_ty, ty3, ty32, ty34, ty36, ty38, ty40, ty42, ty130, ty134, K42, K48, C_own, own, C_order, order, h1, h2, h3] <;> (first | omega | (simp_all; done) | skip)
theorem sSuffices_c (l : List Inc) (s : List Fa) (p : Po) (q : Rq) (k : List Int) (hl : l.length < 9223372036854775807) (hs : s.length ≤ 1048576) (hp : p.rs.length ≤ 1048576) (hx : ∀ r ∈ p.rs, r.x.size < 4611686018427387904) (hk : k.length < 9223372036854775807) : call C 79 [incs l, fas s, .agg p.c, .agg q.c, .arr 1 (intRow k)] [] [] = some ([.bool (suffices_ l s p q k)], [], []) := by
  have h1 := sOnlyFacts_c s k hs hk
  have hlen := onlyTo_len s k s.length
  have h2 := sDecideBy_c l (onlyTo s k s.length) p q hl (by omega) hp hx
  have h3 := sDecideBy_c l s p q hl hs hp hx
  unfold suffices_
  generalize decideBy l (onlyTo s k s.length) p q = a at *
  generalize decideBy l s p q = b at *
  generalize onlyTo s k s.length = s' at *
  simp only [incs, fas, Po.c, Rq.c] at h1 h2 h3 ⊢
  rw [call_pure C (f := 79) (fn := Tryz.f79) (C_P ▸ Tryz.func79) rfl rfl]
  simp (config := { maxSteps := 10000000 }) [C_ty, ty3, ty32, ty34, ty36, ty38, ty40, ty42, ty130, ty134, K74, K155, C_own, own, C_order, order, h1, h2, h3] <;> (first | omega | (simp_all; done) | skip)
end Go.AI
/- What is needed; copies of lists of numbers. -/
namespace Go.AI
open Go Go.Proofs Rl
attribute [local congr] bind_left map_left guardOn_congr condOn_congr
attribute [local simp] call_pure start run_seq run_region run_draw arrange run_cond run_block exec_ret exec_exit exec_skip ite_bind ite_map opsW_nil opsW_cons opsW_guard doOp_move doOp_assign doOp_pick doOp_load doOp_nilCheck doOp_fieldAddr doOp_indexAddr doOp_index doOp_slice doOp_binOp doOp_not doOp_neg doOp_convert doOp_extract doOp_build doOp_makeFunc doOp_len doOp_min doOp_max doOp_field doOp_alloc doOp_box doOp_store doOp_buildSlice doOp_makeSlice doOp_append doOp_call cutMk ret tidy sift closed okCell cellsT headOf
set_option maxRecDepth 100000
set_option maxHeartbeats 4000000
set_option linter.unusedSimpArgs false
set_option linter.unusedVariables false
def without (k : List Int) (x : Int) : List Int := k.filter fun y => !decide (y = x)
theorem without_take {k : List Int} {x : Int} {i : Nat} (h : i < k.length) : without (k.take (i + 1)) x = if k[i] = x then without (k.take i) x else without (k.take i) x ++ [k[i]] := by
  unfold without
  rw [List.take_succ_eq_append_getElem h, List.filter_append]
  by_cases e : k[i] = x <;> simp [e]
theorem without_len (k : List Int) (x : Int) : (without k x).length ≤ k.length := List.length_filter_le _ _
theorem WithoutIndex_c (k : List Int) (x : Int) (hk : k.length ≤ 1048576) : call C 89 [.arr 1 (intRow k), .int .i64 x] [] [] = some ([.oarr 3 (intRow (without k x))], [], []) := by
  have hil : (intRow k).length = k.length := by simp [intRow]
  rw [call_pure C (f := 89) (fn := Tryz.f89) (C_P ▸ Tryz.func89) rfl rfl]
  simp (config := { maxSteps := 10000000 }) [C_ty, ty3, ty32, C_live, C_keep, keep, live89_3, hil] <;> (first | omega | (simp_all; done) | skip)
  rw [loop_to C 89 (J := fun i => ⟨[(11, .int .i64 i), (10, .int .i64 k.length), (9, .arr 1 (intRow k)), (5, .ref 512 0 (without (k.take i) x).length (without (k.take i) x).length), (1, .int .i64 x)], [], [(512, ⟨false, (without (k.take i) x).length, 3, intRow (without (k.take i) x)⟩)]⟩) (n := k.length) (h0 := ?h0) (step := ?step)]
  case h0 => simp (config := { maxSteps := 10000000 }) [C_ty, ty3, ty32, C_live, C_keep, keep, live89_3, without, intRow] <;> (first | omega | (simp_all; done) | skip)
  case step =>
    intro i hi
    have hw := wrap_nat (i := i) (by omega)
    have hlen := without_len (k.take i) x
    rw [List.length_take] at hlen
    have hsz : ((without (k.take i) x).length + 1) * 8 ≤ 140737488355328 := by omega
    have hii : intRow [k[i]] = [[.int .i64 k[i]]] := rfl
    have hget : (intRow k)[i]'(by rw [hil]; exact hi) = [.int .i64 k[i]] := by simp [intRow]
    have happ : ∀ L : List Int, intRow (L ++ [k[i]]) = intRow L ++ [[.int .i64 k[i]]] := fun L => by rw [intRow_append]; rfl
    rw [without_take hi]
    generalize without (k.take i) x = L at *
    generalize hR : intRow k = R at *
    generalize k[i] = y at *
    by_cases e : y = x
    · subst e
      simp (config := { maxSteps := 10000000 }) [C_ty, ty3, ty32, C_live, C_keep, keep, live89_3, hi, hw, hil, hget, hsz, happ] <;> (first | omega | (simp_all; done) | skip)
    · simp (config := { maxSteps := 10000000 }) [C_ty, ty3, ty32, C_live, C_keep, keep, live89_3, hi, hw, hil, hget, hsz, happ, e] <;> (first | omega | (simp_all; done) | skip)
  simp (config := { maxSteps := 10000000 }) [C_ty, ty3, ty32, C_live, C_keep, keep, live89_3, List.take_length, hil] <;> (first | omega | (simp_all; done) | skip)
theorem sWithoutIndex_c (k : List Int) (x : Int) (hk : k.length ≤ 1048576) : call C 85 [.arr 1 (intRow k), .int .i64 x] [] [] = some ([.oarr 3 (intRow (without k x))], [], []) := by
  have hil : (intRow k).length = k.length := by simp [intRow]
  rw [call_pure C (f := 85) (fn := Tryz.f85) (C_P ▸ Tryz.func85) rfl rfl]
  simp (config := { maxSteps := 10000000 }) [C_ty, ty3, ty32, C_live, C_keep, keep, live85_3, hil] <;> (first | omega | (simp_all; done) | skip)
  rw [loop_to C 85 (J := fun i => ⟨[(6, .int .i64 i), (5, .ref 448 0 (without (k.take i) x).length (without (k.take i) x).length), (1, .int .i64 x), (0, .arr 1 (intRow k))], [], [(448, ⟨false, (without (k.take i) x).length, 3, intRow (without (k.take i) x)⟩)]⟩) (n := k.length) (h0 := ?h0) (step := ?step)]
  case h0 => simp (config := { maxSteps := 10000000 }) [C_ty, ty3, ty32, C_live, C_keep, keep, live85_3, without, intRow] <;> (first | omega | (simp_all; done) | skip)
  case step =>
    intro i hi
    have hw := wrap_nat (i := i) (by omega)
    have hlen := without_len (k.take i) x
    rw [List.length_take] at hlen
    have hsz : ((without (k.take i) x).length + 1) * 8 ≤ 140737488355328 := by omega
    have hget : (intRow k)[i]'(by rw [hil]; exact hi) = [.int .i64 k[i]] := by simp [intRow]
    have happ : ∀ L : List Int, intRow (L ++ [k[i]]) = intRow L ++ [[.int .i64 k[i]]] := fun L => by rw [intRow_append]; rfl
    rw [without_take hi]
    generalize without (k.take i) x = L at *
    generalize hR : intRow k = R at *
    generalize k[i] = y at *
    by_cases e : y = x
    · subst e
      simp (config := { maxSteps := 10000000 }) [C_ty, ty3, ty32, C_live, C_keep, keep, live85_3, hi, hw, hil, hget, hsz, happ] <;> (first | omega | (simp_all; done) | skip)
    · simp (config := { maxSteps := 10000000 }) [C_ty, ty3, ty32, C_live, C_keep, keep, live85_3, hi, hw, hil, hget, hsz, happ, e] <;> (first | omega | (simp_all; done) | skip)
  simp (config := { maxSteps := 10000000 }) [C_ty, ty3, ty32, C_live, C_keep, keep, live85_3, List.take_length, hil] <;> (first | omega | (simp_all; done) | skip)
def isNeeded (l : List Inc) (s : List Fa) (p : Po) (q : Rq) (k : List Int) (i : Int) : Bool := k.contains i && suffices_ l s p q k && !suffices_ l s p q (without k i)
theorem IsNeeded_c (l : List Inc) (s : List Fa) (p : Po) (q : Rq) (k : List Int) (i : Int) (hl : l.length < 9223372036854775807) (hs : s.length ≤ 1048576) (hp : p.rs.length ≤ 1048576) (hx : ∀ r ∈ p.rs, r.x.size < 4611686018427387904) (hk : k.length ≤ 1048576) : call C 83 [incs l, fas s, .agg p.c, .agg q.c, .arr 1 (intRow k), .int .i64 i] [] [] = some ([.bool (isNeeded l s p q k i)], [], []) := by
  have h1 := Contains_c k i (by omega)
  have hlen := without_len k i
  have h2 := Suffices_c l s p q k hl hs hp hx (by omega)
  have h3 := Suffices_c l s p q (without k i) hl hs hp hx (by omega)
  have h4 := WithoutIndex_c k i hk
  unfold isNeeded
  generalize suffices_ l s p q (without k i) = a at *
  generalize suffices_ l s p q k = b at *
  generalize k.contains i = c at *
  generalize without k i = k' at *
  simp only [incs, fas, Po.c, Rq.c] at h1 h2 h3 h4 ⊢
  rw [call_pure C (f := 83) (fn := Tryz.f83) (C_P ▸ Tryz.func83) rfl rfl]
  by_cases h0_ : c = true
  · by_cases h1_ : b = true
    · simp (config := { maxSteps := 10000000 }) [C_ty, ty3, ty4, ty32, ty34, ty36, ty38, ty40, ty42, ty130, ty134, K81, K89, K122, C_own, own, C_order, order, h1, h2, h3, h4, h0_, h1_] <;> (first | omega | (simp_all; done) | skip)
    · simp (config := { maxSteps := 10000000 }) [C_ty, ty3, ty4, ty32, ty34, ty36, ty38, ty40, ty42, ty130, ty134, K81, K89, K122, C_own, own, C_order, order, h1, h2, h3, h4, h0_, h1_] <;> (first | omega | (simp_all; done) | skip)
  · simp (config := { maxSteps := 10000000 }) [C_ty, ty3, ty4, ty32, ty34, ty36, ty38, ty40, ty42, ty130, ty134, K81, K89, K122, C_own, own, C_order, order, h1, h2, h3, h4, h0_] <;> (first | omega | (simp_all; done) | skip)
theorem sIsNeeded_c (l : List Inc) (s : List Fa) (p : Po) (q : Rq) (k : List Int) (i : Int) (hl : l.length < 9223372036854775807) (hs : s.length ≤ 1048576) (hp : p.rs.length ≤ 1048576) (hx : ∀ r ∈ p.rs, r.x.size < 4611686018427387904) (hk : k.length ≤ 1048576) : call C 82 [incs l, fas s, .agg p.c, .agg q.c, .arr 1 (intRow k), .int .i64 i] [] [] = some ([.bool (isNeeded l s p q k i)], [], []) := by
  have h1 := l13Has_c k i (by omega)
  have hlen := without_len k i
  have h2 := sSuffices_c l s p q k hl hs hp hx (by omega)
  have h3 := sSuffices_c l s p q (without k i) hl hs hp hx (by omega)
  have h4 := sWithoutIndex_c k i hk
  unfold isNeeded
  generalize suffices_ l s p q (without k i) = a at *
  generalize suffices_ l s p q k = b at *
  generalize k.contains i = c at *
  generalize without k i = k' at *
  simp only [incs, fas, Po.c, Rq.c] at h1 h2 h3 h4 ⊢
  rw [call_pure C (f := 82) (fn := Tryz.f82) (C_P ▸ Tryz.func82) rfl rfl]
  by_cases h0_ : c = true
  · by_cases h1_ : b = true
    · simp (config := { maxSteps := 10000000 }) [C_ty, ty3, ty4, ty32, ty34, ty36, ty38, ty40, ty42, ty130, ty134, K79, K85, K156, C_own, own, C_order, order, h1, h2, h3, h4, h0_, h1_] <;> (first | omega | (simp_all; done) | skip)
    · simp (config := { maxSteps := 10000000 }) [C_ty, ty3, ty4, ty32, ty34, ty36, ty38, ty40, ty42, ty130, ty134, K79, K85, K156, C_own, own, C_order, order, h1, h2, h3, h4, h0_, h1_] <;> (first | omega | (simp_all; done) | skip)
  · simp (config := { maxSteps := 10000000 }) [C_ty, ty3, ty4, ty32, ty34, ty36, ty38, ty40, ty42, ty130, ty134, K79, K85, K156, C_own, own, C_order, order, h1, h2, h3, h4, h0_] <;> (first | omega | (simp_all; done) | skip)
theorem eqIntS_c (l : List Int) (hl : l.length < 9223372036854775807) : call C 24 [.arr 1 (intRow l), .arr 1 (intRow l)] [] [] = some ([.bool true], [], []) := by
  have hil : (intRow l).length = l.length := by simp [intRow]
  rw [call_pure C (f := 24) (fn := Tryz.f24) (C_P ▸ Tryz.func24) rfl rfl]
  simp (config := { maxSteps := 10000000 }) [C_ty, ty3, ty32, C_order, order, C_live, C_keep, keep, live24_4] <;> (first | omega | (simp_all; done) | skip)
  rw [loop_to C 24 (J := fun i => ⟨[(5, .int .i64 i), (1, .arr 1 (intRow l)), (0, .arr 1 (intRow l))], [], []⟩) (n := l.length) (h0 := ?h0) (step := ?step)]
  case h0 => simp (config := { maxSteps := 10000000 }) [C_ty, ty3, ty32, C_order, order, C_live, C_keep, keep, live24_4] <;> (first | omega | (simp_all; done) | skip)
  case step =>
    intro i hi
    have hw := wrap_nat (i := i) (by omega)
    simp (config := { maxSteps := 10000000 }) [C_ty, ty3, ty32, C_order, order, C_live, C_keep, keep, live24_4, hi, hw, intRow] <;> (first | omega | (simp_all; done) | skip)
  simp (config := { maxSteps := 10000000 }) [C_ty, ty3, ty32, C_order, order, C_live, C_keep, keep, live24_4, hil] <;> (first | omega | (simp_all; done) | skip)
theorem toIntS_c (l : List Int) (hl : l.length ≤ 1048576) : call C 80 [.arr 1 (intRow l)] [] [] = some ([.oarr 3 (intRow l)], [], []) := by
  have hil : (intRow l).length = l.length := by simp [intRow]
  have hsz : (l.length : Int) * 8 ≤ 281474976710656 := by omega
  rw [call_pure C (f := 80) (fn := Tryz.f80) (C_P ▸ Tryz.func80) rfl rfl]
  simp (config := { maxSteps := 10000000 }) [C_ty, ty3, ty32, C_live, C_keep, keep, live80_3, hil, hsz] <;> (first | omega | (simp_all; done) | skip)
  rw [loop_to C 80 (J := fun i => ⟨[(4, .int .i64 i), (3, .ref 448 0 l.length l.length), (0, .arr 1 (intRow l))], [], [(448, ⟨false, l.length, 3, part (intRow l) [.int .i64 0] i⟩)]⟩) (n := l.length) (h0 := ?h0) (step := ?step)]
  case h0 => simp (config := { maxSteps := 10000000 }) [C_ty, ty3, ty32, C_live, C_keep, keep, live80_3, part, hil] <;> (first | omega | (simp_all; done) | skip)
  case step =>
    intro i hi
    have hw := wrap_nat (i := i) (by omega)
    have hi' : i < (intRow l).length := by rw [hil]; exact hi
    have hget : (intRow l)[i]'hi' = [.int .i64 l[i]] := by simp [intRow]
    have hp := part_set (intRow l) [PV.int .i64 0] hi' hget
    have hg := part_at (intRow l) [PV.int .i64 0] hi'
    have hpl := part_len (intRow l) [PV.int .i64 0] (Nat.le_of_lt hi')
    rw [hil] at hpl
    generalize hR : intRow l = R at *
    simp (config := { maxSteps := 10000000 }) [C_ty, ty3, ty32, C_live, C_keep, keep, live80_3, hi, hw, hil, hget, hp, hg, hpl] <;> (first | omega | (simp_all; done) | skip)
  have hall := part_all (intRow l) [PV.int .i64 0]
  rw [hil] at hall
  rw [hall]
  simp (config := { maxSteps := 10000000 }) [C_ty, ty3, ty32, C_live, C_keep, keep, live80_3, hil] <;> (first | omega | (simp_all; done) | skip)
end Go.AI
