/- Operations, code and calls: the interpreter is right. -/
import Derived.Test.YtbfochojhmggfaaGreatAiP2
import Derived.Deep.Upon
import Derived.Orders
set_option linter.unusedSimpArgs false
set_option linter.unusedVariables false
/- Rows grown. -/
namespace Go.AI
open Go Go.RowKit
section
variable {C : Cfg} {good : TypeId → Bool} {κ : Place} {I : Nat → Prop} {st : St} {w : World} {ρ : Operand → Value} {o : Oper} {a : Did}
theorem el_read {p : Addr} : ∀ {el : List PV} {j0 : Nat}, (∀ (j : Nat) (c : PV), el[j]? = some c → ∃ u, w.cell? (p.add (j0 + j)) = some u ∧ KR I w c u) → ∃ vs, All2 (KR I w) el vs ∧ ∀ (j : Nat) (u : Value), vs[j]? = some u → w.cell? (p.add (j0 + j)) = some u
  | [], _, _ => ⟨[], trivial, fun j u h => by simp at h⟩
  | c :: el, j0, h => by
    obtain ⟨u, h1, h2⟩ := h 0 c rfl
    obtain ⟨vs, h3, h4⟩ := el_read (el := el) (j0 := j0 + 1) (p := p) fun j c hc => by
      have := h (j + 1) c (by simpa using hc)
      rw [show j0 + 1 + j = j0 + (j + 1) by omega]
      exact this
    refine ⟨u :: vs, ⟨h2, h3⟩, fun j v hj => ?_⟩
    cases j with
    | zero => simp only [List.getElem?_cons_zero, Option.some.injEq] at hj; subst hj; exact h1
    | succ j =>
      have := h4 j v (by simpa using hj)
      rw [show j0 + (j + 1) = j0 + 1 + j by omega]
      exact this
theorem rows_read {p : Addr} {sz : Nat} : ∀ {ys : List (List PV)} {i0 : Nat}, (∀ (i : Nat) (el : List PV), ys[i]? = some el → el.length = sz ∧ ∀ (j : Nat) (c : PV), el[j]? = some c → ∃ u, w.cell? ((p.add ((i0 + i) * sz)).add j) = some u ∧ KR I w c u) →
    ∃ vals : List (List Value), All2 (fun el vs => el.length = sz ∧ All2 (KR I w) el vs) ys vals ∧ ∀ (j : Nat) (u : Value), vals.flatten[j]? = some u → w.cell? (p.add (i0 * sz + j)) = some u
  | [], _, _ => ⟨[], trivial, fun j u h => by simp at h⟩
  | el :: ys, i0, h => by
    obtain ⟨hl, h1⟩ := h 0 el rfl
    obtain ⟨vs, h2, h3⟩ := el_read (w := w) (I := I) (p := p.add (i0 * sz)) (el := el) (j0 := 0) fun j c hc => by
      rw [Nat.zero_add]
      exact h1 j c hc
    obtain ⟨vals, h4, h5⟩ := rows_read (ys := ys) (i0 := i0 + 1) (p := p) fun i el hi => by
      have := h (i + 1) el (by simpa using hi)
      rw [show i0 + 1 + i = i0 + (i + 1) by omega]
      exact this
    refine ⟨vs :: vals, ⟨⟨hl, h2⟩, h4⟩, fun j u hj => ?_⟩
    have hvl : vs.length = sz := by rw [← h2.length]; exact hl
    rw [List.flatten_cons, List.getElem?_append] at hj
    split at hj
    · have := h3 j u hj
      rw [add_add', Nat.zero_add] at this
      exact this
    · have := h5 _ u hj
      rw [hvl, Nat.add_mul, Nat.one_mul] at this
      rw [hvl] at *
      rw [show i0 * sz + j = i0 * sz + sz + (j - sz) by omega]
      exact this
/-- A slice's elements as they lie. -/
theorem elems_ok {e : TypeId} {x : PV} {v : Value} {ys : List (List PV)} (h : Heap C κ I st.look w) (hv : VR C κ I st.look w x v) (he : elems C st.look e x = some ys) :
    ∃ A cap vals, v = .slice A ys.length cap ∧ All2 (fun el vs => el.length = (C.ty e).sz ∧ All2 (KR I w) el vs) ys vals ∧ (ys ≠ [] → ∃ p, A = some p ∧ ∀ (j : Nat) (u : Value), vals.flatten[j]? = some u → w.cell? (p.add j) = some u) := by
  cases x with
  | nil =>
    cases he
    have : v = .slice none 0 0 := by simpa only [VR, VA, V1, KR] using hv
    exact ⟨none, 0, [], this, trivial, fun h => absurd rfl h⟩
  | arr s xs =>
    simp only [elems] at he
    split at he
    · rename_i hs
      obtain rfl : xs = ys := Option.some.inj he
      have hv' : KR I w (.arr s xs) v := by simpa only [VR, VA, V1] using hv
      simp only [KR] at hv'
      obtain ⟨A, cap, h1, h2, h3⟩ := hv'
      cases xs with
      | nil => exact ⟨A, cap, [], h1, trivial, fun h => absurd rfl h⟩
      | cons y xs =>
        obtain ⟨_, p, hp, _⟩ := KRows_get h3 (i := 0) rfl
        obtain ⟨vals, h5, h6⟩ := rows_read (w := w) (I := I) (p := p) (sz := s) (ys := y :: xs) (i0 := 0) fun i el hi => by
          obtain ⟨h7, p', hp', h8⟩ := KRows_get h3 hi
          rw [hp] at hp'
          cases hp'
          refine ⟨h7, fun j c hj => ?_⟩
          obtain ⟨u, h9, _, h10⟩ := KCells_get h8 hj
          exact ⟨u, by simp only [Nat.zero_add] at h9 ⊢; exact h9, h10⟩
        refine ⟨A, cap, vals, h1, by rw [← hs]; exact h5, fun _ => ⟨p, hp, fun j u hj => ?_⟩⟩
        have := h6 j u hj
        rw [Nat.zero_mul, Nat.zero_add] at this
        exact this
    · cases he
  | ref k off len ver =>
    simp only [elems] at he
    obtain ⟨B, hB, he2⟩ := Option.bind_eq_some_iff.1 he
    clear he
    split at he2
    · rename_i hc
      obtain ⟨rfl, hver, hol⟩ := hc
      obtain rfl : (B.xs.drop off).take len = ys := Option.some.inj he2
      obtain ⟨B', A, cap, h1, h2, h3, h4⟩ := (show V1 C κ I st.look w (.ref k off len ver) v by simpa only [VR, VA] using hv)
      rw [hB] at h1
      cases h1
      obtain ⟨hlo, h5, h6, h7, h8⟩ := h4 hver
      have hbl := (h.blk k B hB).len
      have hlen : ((B.xs.drop off).take len).length = len := by
        rw [List.length_take, List.length_drop]
        omega
      by_cases hl0 : len = 0
      · subst hl0
        refine ⟨A, cap, [], by rw [hlen]; exact h2, by rw [List.take_zero]; trivial, fun h => ?_⟩
        rw [List.take_zero] at h
        exact absurd rfl h
      · obtain ⟨p, hp, hA⟩ := h7 (.inl (by omega))
        obtain ⟨vals, h9, h10⟩ := rows_read (w := w) (I := I) (p := p.add ((off - (κ.blk k).2.2) * (C.ty B.e).sz)) (sz := (C.ty B.e).sz) (ys := (B.xs.drop off).take len) (i0 := 0) fun i el hi => by
          rw [List.getElem?_take] at hi
          split at hi
          · rw [List.getElem?_drop] at hi
            obtain ⟨h11, p', hp', h12⟩ := (h.blk k B hB).cells (by omega) hi
            rw [hp] at hp'
            cases hp'
            refine ⟨h11, fun j c hj => ?_⟩
            obtain ⟨u, h13, h14⟩ := h12 j c hj
            refine ⟨u, ?_, h14⟩
            rw [add_add' p, Nat.zero_add, ← Nat.add_mul, show off - (κ.blk k).2.2 + i = off + i - (κ.blk k).2.2 by omega]
            exact h13
          · cases hi
        refine ⟨A, cap, vals, by rw [hlen]; exact h2, h9, fun _ => ⟨_, hA, fun j u hj => ?_⟩⟩
        have := h10 j u hj
        rw [Nat.zero_mul, Nat.zero_add] at this
        exact this
    · cases he2
  | _ => cases he
theorem All2.flat {R : PV → Value → Prop} {sz : Nat} : ∀ {ys : List (List PV)} {vals : List (List Value)}, All2 (fun el vs => el.length = sz ∧ All2 R el vs) ys vals → vals.flatten.length = ys.length * sz
  | [], [], _ => by simp
  | y :: ys, v :: vals, h => by
    have := All2.flat h.2
    have h1 := h.1.2.length
    have h2 := h.1.1
    rw [List.flatten_cons, List.length_append, this, List.length_cons, Nat.add_mul]
    omega
  | [], _ :: _, h => h.elim
  | _ :: _, [], h => h.elim
theorem KR.oneCell (C : Cfg) (κ : Place) (st : St) {c : PV} {v : Value} (h : KR I w c v) : v.oneCell' = true :=
  V1.oneCell (C := C) (κ := κ) (L := st.look) (V1.of_KR C κ I st.look w h)
theorem All2.flat_one (C : Cfg) (κ : Place) (st : St) {sz : Nat} {ys : List (List PV)} {vals : List (List Value)} (h : All2 (fun el vs => el.length = sz ∧ All2 (KR I w) el vs) ys vals) : ∀ u ∈ vals.flatten, u.oneCell' = true := by
  intro u hu
  obtain ⟨vs, h1, h2⟩ := List.mem_flatten.1 hu
  obtain ⟨i, hi⟩ := List.getElem?_of_mem h1
  obtain ⟨j, hj⟩ := List.getElem?_of_mem h2
  have hil : i < ys.length := by rw [h.length]; exact (List.getElem?_eq_some_iff.1 hi).1
  obtain ⟨vs', h3, h4, h5⟩ := h.get (List.getElem?_eq_getElem hil)
  rw [hi] at h3
  cases h3
  have hjl : j < (ys[i]).length := by rw [h5.length]; exact (List.getElem?_eq_some_iff.1 hj).1
  obtain ⟨u', h6, h7⟩ := h5.get (List.getElem?_eq_getElem hjl)
  rw [hj] at h6
  cases h6
  exact KR.oneCell C κ st h7
/-- Nothing to add. -/
theorem src_nothing {t e : TypeId} {size : Nat} (ht : C.P.underlying t = some (.slice e)) (A : Option Addr) (cap : Nat) : Src C.P size t (.slice A 0 cap) 0 [] w where
  kind := .inl ⟨e, ht⟩
  len := fun _ => rfl
  cells := by cases A <;> simp [Builtin.firstCells, loadCells, loadCellsFrom]
  cellsD := by cases A <;> simp [Builtin.firstCells, loadCells, loadCellsFrom]
  newsLen := by simp
  one := fun _ h => by cases h
/-- A row grown, and where it then lies. -/
theorem append_where {t ty e : TypeId} {i : TypeInfo} {z : Value} {size bytes : Nat} (ht : C.P.underlying t = some (.slice e)) (hi : C.P.info? e = some i) (hz : i.zero = some z) (hsize : i.size = size) (hby : i.bytes = bytes) (hzs : z.cells.size = size) (hsz : 0 < size) (hb0 : 0 < bytes)
    {p : Option Addr × Nat} {n : Nat} {xs : List Value} (hown : w.ownsRow 0 e size (.slice p.1 n p.2) n xs) {A : Addr} {m c : Nat} {news : List Value} (hm : 0 < m) (hl : news.length = m * size) (hnews : ∀ j u, news[j]? = some u → w.cell? (A.add j) = some u) (h1 : ∀ u ∈ news, u.oneCell' = true)
    (hbytes : (n + m) * bytes ≤ 140737488355328) :
    ∃ (p' : Option Addr × Nat) (w' : World), (Builtin.append_ #[t, t] ty #[.slice p.1 n p.2, .slice (some A) m c]).run C.P w = .ok (.slice p'.1 (n + m) p'.2) w' ∧ w'.ownsRow 0 e size (.slice p'.1 (n + m) p'.2) (n + m) (xs ++ news) ∧ w.grownBy w' (Value.slice p.1 n p.2).ownBlock ∧ ∃ a : Addr, p'.1 = some a ∧ (w.heap.size ≤ a.block ∨ (Value.slice p.1 n p.2).ownBlock = some a.block) := by
  have h63 : n + m ≤ maxLen := by
    have : n + m ≤ (n + m) * bytes := Nat.le_mul_of_pos_right _ hb0
    unfold maxLen; omega
  rcases hown.2 with ⟨hv, rfl⟩ | ⟨g, cap, cur, hv, hbg, hg, hnc, hcm, hcs, htake⟩
  · have hx : xs = [] := List.eq_nil_of_length_eq_zero (by simpa using hown.1)
    subst hx
    rw [hv]
    obtain ⟨v', w', hr, ho, hg, _⟩ := run_append_own (P := C.P) w w.heap.size t ty e i z size bytes ht hi hz hsize hby hzs hsz (.slice none 0 0) 0 [] ⟨by simp, .inl ⟨rfl, rfl⟩⟩ A m c news hl hnews h1 h63 hbytes (Nat.le_refl _)
    rcases ho.2 with ⟨_, h0⟩ | ⟨g, cap, cur, rfl, hbg, rest⟩
    · omega
    · exact ⟨(some ⟨g, 0, none⟩, cap), w', hr, ⟨ho.1, .inr ⟨g, cap, cur, rfl, Nat.zero_le _, rest⟩⟩, hg, _, rfl, .inl hbg⟩
  · rw [hv]
    simp only [Value.slice.injEq, true_and] at hv
    by_cases hroom : n + m ≤ cap
    · have hfit : n * i.size + news.length ≤ cur.size := by rw [hl, hcs, hsize, ← Nat.add_mul]; exact Nat.mul_le_mul_right _ hroom
      have hr := run_append_room (P := C.P) w t ty e i ht hi g n cap cur hg A m c news (by rw [hsize]; exact hl) hnews h1 hroom hfit
      obtain ⟨v', w', hr', ho, hgr, _⟩ := run_append_own (P := C.P) w 0 t ty e i z size bytes ht hi hz hsize hby hzs hsz (.slice (some ⟨g, 0, none⟩) n cap) n xs ⟨hown.1, .inr ⟨g, cap, cur, rfl, hbg, hg, hnc, hcm, hcs, htake⟩⟩ A m c news hl hnews h1 h63 hbytes (Nat.zero_le _)
      rw [hr] at hr'
      simp only [Result.ok.injEq] at hr'
      obtain ⟨rfl, rfl⟩ := hr'
      exact ⟨(some ⟨g, 0, none⟩, cap), _, hr, ho, hgr, _, rfl, .inr rfl⟩
    · have holds : ∀ j u, xs[j]? = some u → w.cell? ((⟨g, 0, none⟩ : Addr).add j) = some u := World.ownsRow.cells (v := .slice (some ⟨g, 0, none⟩) n cap) ⟨hown.1, .inr ⟨g, cap, cur, rfl, hbg, hg, hnc, hcm, hcs, htake⟩⟩ (g := g) rfl
      have hr := run_append_grow (P := C.P) w t ty e i z ht hi hz ⟨g, 0, none⟩ n cap xs (by rw [hsize]; exact hown.1) holds A m c news (by rw [hsize]; exact hl) hnews (by omega) (by unfold maxLen at h63; omega) (growslice_fits (by omega) (by rw [hby]; exact hbytes))
      obtain ⟨v', w', hr', ho, hgr, _⟩ := run_append_own (P := C.P) w 0 t ty e i z size bytes ht hi hz hsize hby hzs hsz (.slice (some ⟨g, 0, none⟩) n cap) n xs ⟨hown.1, .inr ⟨g, cap, cur, rfl, hbg, hg, hnc, hcm, hcs, htake⟩⟩ A m c news hl hnews h1 h63 hbytes (Nat.zero_le _)
      rw [hr] at hr'
      simp only [Result.ok.injEq] at hr'
      obtain ⟨rfl, rfl⟩ := hr'
      exact ⟨(some ⟨w.heap.size, 0, none⟩, _), _, hr, ho, hgr, _, rfl, .inl (Nat.le_refl _)⟩
theorem append_any {t ty e : TypeId} {i : TypeInfo} {z : Value} {size bytes : Nat} (ht : C.P.underlying t = some (.slice e)) (hi : C.P.info? e = some i) (hz : i.zero = some z) (hsize : i.size = size) (hby : i.bytes = bytes) (hzs : z.cells.size = size) (hsz : 0 < size) (hb0 : 0 < bytes)
    {p : Option Addr × Nat} {n : Nat} {xs : List Value} (hown : w.ownsRow 0 e size (.slice p.1 n p.2) n xs) {A : Option Addr} {m c : Nat} {news : List Value} (hl : news.length = m * size) (hread : 0 < m → ∃ q, A = some q ∧ ∀ j u, news[j]? = some u → w.cell? (q.add j) = some u) (h1 : ∀ u ∈ news, u.oneCell' = true)
    (hbytes : (n + m) * bytes ≤ 140737488355328) :
    ∃ (p' : Option Addr × Nat) (w' : World), (Builtin.append_ #[t, t] ty #[.slice p.1 n p.2, .slice A m c]).run C.P w = .ok (.slice p'.1 (n + m) p'.2) w' ∧ w'.ownsRow 0 e size (.slice p'.1 (n + m) p'.2) (n + m) (xs ++ news) ∧ w.grownBy w' (Value.slice p.1 n p.2).ownBlock ∧
      (∀ a : Addr, p'.1 = some a → w.heap.size ≤ a.block ∨ (Value.slice p.1 n p.2).ownBlock = some a.block) ∧ (m = 0 → p' = p) ∧ (0 < m → ∃ a, p'.1 = some a) := by
  by_cases hm : m = 0
  · subst hm
    have hn : news = [] := List.eq_nil_of_length_eq_zero (by simpa using hl)
    subst hn
    have hle : n ≤ p.2 := by
      rcases hown.2 with ⟨hv, rfl⟩ | ⟨g, cap, cur, hv, _, _, hnc, _⟩
      · omega
      · simp only [Value.slice.injEq, true_and] at hv
        omega
    refine ⟨p, w, run_append_nothing w t t _ _ i ht hi p.1 n p.2 hle _ (src_nothing ht A c), by simpa using hown, ⟨rfl, rfl, rfl, Nat.le_refl _, fun _ _ _ => rfl⟩, fun a ha => .inr (by rw [ha]; rfl), fun _ => rfl, fun h => by omega⟩
  · obtain ⟨q, rfl, hr⟩ := hread (by omega)
    obtain ⟨p', w', h2, h3, h4, a, h5, h6⟩ := append_where (ty := ty) ht hi hz hsize hby hzs hsz hb0 hown (by omega) hl hr h1 hbytes (c := c)
    exact ⟨p', w', h2, h3, h4, fun a' ha' => by rw [h5] at ha'; cases ha'; exact h6, fun h => absurd h hm, fun _ => ⟨a, h5⟩⟩
theorem flatten_drop {α : Type} {sz : Nat} : ∀ (l : List (List α)) (q : Nat), (∀ x ∈ l, x.length = sz) → (l.drop q).flatten = l.flatten.drop (q * sz)
  | [], q, _ => by simp
  | x :: l, 0, _ => by simp
  | x :: l, q + 1, h => by
    have hx := h x (by simp)
    have e1 : x.drop ((q + 1) * sz) = [] := List.drop_eq_nil_of_le (by rw [hx, Nat.add_mul]; omega)
    have e2 : (q + 1) * sz - x.length = q * sz := by rw [hx, Nat.add_mul]; omega
    rw [List.drop_succ_cons, List.flatten_cons, flatten_drop l q (fun y hy => h y (by simp [hy])), List.drop_append, e1, List.nil_append, e2]
theorem owns_some {p : Option Addr × Nat} {n : Nat} {xs : List Value} {e : TypeId} {size : Nat} (h : w.ownsRow 0 e size (.slice p.1 n p.2) n xs) : (p.1 = none ∧ p.2 = 0 ∧ n = 0) ∨ ∃ g cur, p.1 = some ⟨g, 0, none⟩ ∧ w.heap[g]? = some (.cells cur e (0, 0)) ∧ n ≤ p.2 ∧ p.2 ≤ maxLen ∧ cur.size = p.2 * size ∧ cur.toList.take (n * size) = xs := by
  rcases h.2 with ⟨h2, h3⟩ | ⟨g, cap, cur, h2, h3, h4, h5, h6, h7, h8⟩
  · simp only [Value.slice.injEq] at h2
    exact .inl ⟨h2.1, h2.2.2, h3⟩
  · simp only [Value.slice.injEq, true_and] at h2
    obtain ⟨h9, h10⟩ := h2
    rw [h10]
    exact .inr ⟨g, cur, h9, h4, h5, h6, h7, h8⟩
/-- Room behind a part of a row. -/
theorem run_append_room_at {t ty e : TypeId} {i : TypeInfo} (ht : C.P.underlying t = some (.slice e)) (hi : C.P.info? e = some i) (g o sLen sCap : Nat) (cur : Array Value) (hg : w.heap[g]? = some (.cells cur e (0, 0)))
    (a : Addr) (m c : Nat) (news : List Value) (hl : news.length = m * i.size) (hnews : ∀ j u, news[j]? = some u → w.cell? (a.add j) = some u) (h1 : ∀ u ∈ news, u.oneCell' = true) (hroom : sLen + m ≤ sCap) (hfit : o + sLen * i.size + news.length ≤ cur.size) :
    (Builtin.append_ #[t, t] ty #[.slice (some ⟨g, o, none⟩) sLen sCap, .slice (some a) m c]).run C.P w = .ok (.slice (some ⟨g, o, none⟩) (sLen + m) sCap) (w.setRow g (cur.toList.take (o + sLen * i.size) ++ news ++ cur.toList.drop (o + sLen * i.size + news.length)).toArray) := by
  have hf := run_firstCells_some (P := C.P) w i.size m a m c news hl hnews
  have hst := run_storeCells_at C.P g (o + sLen * i.size) e news 0 cur w hg (by simpa using hfit) h1
  simp only [Nat.add_zero] at hst
  simp [Builtin.append_, run_underlying ht, sizeOf, typeInfo, hi, Builtin.lenOf, hroom, hf, Addr.add_lit, hst]
/-- A row's end grown. -/
theorem append_tail {t ty e : TypeId} {i : TypeInfo} {z : Value} {size bytes : Nat} (ht : C.P.underlying t = some (.slice e)) (hi : C.P.info? e = some i) (hz : i.zero = some z) (hsize : i.size = size) (hby : i.bytes = bytes) (hzs : z.cells.size = size) (hsz : 0 < size) (hb0 : 0 < bytes)
    {p : Option Addr × Nat × Nat} {n off len cap : Nat} {xs : List Value} (hown : w.ownsRow 0 e size (.slice p.1 (n - p.2.2) p.2.1) (n - p.2.2) xs) {B A : Option Addr} (hle : p.2.2 ≤ off) (hol : off + len = n) (hcap : cap = p.2.1 - (off - p.2.2)) (hA : 0 < len ∨ 0 < cap → ∃ a, p.1 = some a ∧ B = some (a.add ((off - p.2.2) * size))) (hB : off = p.2.2 → B = p.1)
    {m c : Nat} {news : List Value} (hl : news.length = m * size) (hread : 0 < m → ∃ q, A = some q ∧ ∀ j u, news[j]? = some u → w.cell? (q.add j) = some u) (h1 : ∀ u ∈ news, u.oneCell' = true) (hbytes : (n + m) * bytes ≤ 140737488355328) :
    ∃ (p' : Option Addr × Nat × Nat) (B' : Option Addr) (cap' : Nat) (w' : World), (Builtin.append_ #[t, t] ty #[.slice B len cap, .slice A m c]).run C.P w = .ok (.slice B' (len + m) cap') w' ∧ p.2.2 ≤ p'.2.2 ∧ p'.2.2 ≤ off ∧
      w'.ownsRow 0 e size (.slice p'.1 (n + m - p'.2.2) p'.2.1) (n + m - p'.2.2) (xs.drop ((p'.2.2 - p.2.2) * size) ++ news) ∧ w.grownBy w' (Value.slice p.1 (n - p.2.2) p.2.1).ownBlock ∧ (∀ a : Addr, p'.1 = some a → w.heap.size ≤ a.block ∨ (Value.slice p.1 (n - p.2.2) p.2.1).ownBlock = some a.block) ∧ (m = 0 → p' = p) ∧
      cap' = p'.2.1 - (off - p'.2.2) ∧ (0 < len + m ∨ 0 < cap' → ∃ a, p'.1 = some a ∧ B' = some (a.add ((off - p'.2.2) * size))) ∧ (off = p'.2.2 → B' = p'.1) := by
  obtain ⟨pa, pc, lo⟩ := p
  simp only at hown hle hcap hA hB ⊢
  have hplace := fun (_ : True) => owns_some (p := (pa, pc)) hown
  have hlc : len ≤ cap := by
    rcases hplace trivial with ⟨_, h2, h3⟩ | ⟨g, cur, _, _, h3, _⟩
    · simp only at h2 h3; omega
    · simp only at h3; omega
  by_cases hoff : off = lo
  · -- the whole row
    have e1 : len = n - lo := by omega
    have e2 : cap = pc := by omega
    have e3 := hB hoff
    rw [e1, e2, e3]
    obtain ⟨p', w', g1, g2, g3, g4, g5, g6⟩ := append_any (C := C) (w := w) (t := t) (ty := ty) (p := (pa, pc)) (n := n - lo) (m := m) (c := c) (A := A) ht hi hz hsize hby hzs hsz hb0 hown hl hread h1 (Nat.le_trans (Nat.mul_le_mul_right _ (by omega)) hbytes)
    have en : n + m - lo = n - lo + m := by omega
    refine ⟨(p'.1, p'.2, lo), p'.1, p'.2, w', g1, Nat.le_refl _, hle, ?_, g3, g4, fun hm => ?_, ?_, fun hpos => ?_, fun _ => rfl⟩
    · simp only [Nat.sub_self, Nat.zero_mul, List.drop_zero, en]
      exact g2
    · rw [g5 hm]
    · rw [hoff]; simp
    · rcases owns_some g2 with ⟨_, h2, h3⟩ | ⟨g, cur, h2, _⟩
      · rcases hpos with h | h <;> omega
      · exact ⟨_, h2, by rw [h2, hoff, Nat.sub_self, Nat.zero_mul]; rfl⟩
  · by_cases hm : m = 0
    · subst hm
      have hn : news = [] := List.eq_nil_of_length_eq_zero (by simpa using hl)
      subst hn
      refine ⟨(pa, pc, lo), B, cap, w, run_append_nothing w t t _ _ i ht hi B len cap hlc _ (src_nothing ht A c), Nat.le_refl _, hle, by simpa using hown, ⟨rfl, rfl, rfl, Nat.le_refl _, fun _ _ _ => rfl⟩, fun a ha => .inr (by have ha : pa = some a := ha; rw [ha]; rfl), fun _ => rfl, hcap, fun h => hA (by simpa using h), hB⟩
    · obtain ⟨q, rfl, hr⟩ := hread (by omega)
      have hfits : (len + m) * bytes ≤ 140737488355328 := Nat.le_trans (Nat.mul_le_mul_right _ (by omega)) hbytes
      rcases hplace trivial with ⟨_, h2, h3⟩ | ⟨g, cur, hp, hg, hnc, hcm, hcs, htake⟩
      · simp only at h2 h3; omega
      simp only at hp hnc hcm hcs
      by_cases hroom : len + m ≤ cap
      · obtain ⟨a, ha, rfl⟩ := hA (.inr (by omega))
        rw [hp] at ha
        cases ha
        have hlen2 : (n - lo) + m ≤ pc := by omega
        have hoo : (off - lo) * size + len * size = (n - lo) * size := by rw [← Nat.add_mul, show off - lo + len = n - lo by omega]
        have hfit : (n - lo) * i.size + news.length ≤ cur.size := by rw [hl, hcs, hsize, ← Nat.add_mul]; exact Nat.mul_le_mul_right _ hlen2
        have r1 := run_append_room (P := C.P) w t ty e i ht hi g (n - lo) pc cur hg q m c news (by rw [hsize]; exact hl) hr h1 hlen2 hfit
        obtain ⟨v', w', r2, ho, hgr, _⟩ := run_append_own (P := C.P) w 0 t ty e i z size bytes ht hi hz hsize hby hzs hsz (.slice pa (n - lo) pc) (n - lo) xs hown q m c news hl hr h1 (by simp only [maxLen] at *; omega) (Nat.le_trans (Nat.mul_le_mul_right _ (by omega)) hbytes) (Nat.zero_le _)
        rw [hp] at r2
        rw [r1] at r2
        simp only [Result.ok.injEq] at r2
        obtain ⟨rfl, rfl⟩ := r2
        have r3 := run_append_room_at (w := w) (ty := ty) ht hi g ((off - lo) * size) len cap cur hg q m c news (by rw [hsize]; exact hl) hr h1 hroom (by rw [hsize, hoo, ← hsize]; exact hfit)
        rw [hsize, hoo] at r3
        have en : n + m - lo = n - lo + m := by omega
        refine ⟨(pa, pc, lo), some ⟨g, (off - lo) * size, none⟩, cap, _, ?_, Nat.le_refl _, hle, ?_, hgr, fun a ha => .inr (by have ha : pa = some a := ha; rw [ha]; rfl), fun _ => rfl, hcap, fun _ => ⟨_, hp, ?_⟩, fun h => absurd h hoff⟩
        · rw [Addr.add_lit, Nat.zero_add, hsize]
          exact r3
        · simp only [Nat.sub_self, Nat.zero_mul, List.drop_zero, en]
          rw [hp]
          exact ho
        · rw [Addr.add_lit, Nat.zero_add]
      · -- a new row
        have hxl : xs.length = (n - lo) * size := hown.1
        have hdl : (xs.drop ((off - lo) * size)).length = len * size := by
          rw [List.length_drop, hxl, ← Nat.sub_mul]
          congr 1
          omega
        have hold : (Builtin.firstCells i.size len (.slice B len cap)).run C.P w.drew = .ok (xs.drop ((off - lo) * size)).toArray w.drew := by
          by_cases hl0 : len = 0
          · subst hl0
            have hx0 : xs.drop ((off - lo) * size) = [] := List.eq_nil_of_length_eq_zero (by simpa using hdl)
            rw [hx0]
            cases B <;> simp [Builtin.firstCells, loadCells, loadCellsFrom]
          · obtain ⟨a, ha, rfl⟩ := hA (.inl (by omega))
            rw [hp] at ha
            cases ha
            refine run_firstCells_some (P := C.P) w.drew i.size len _ len cap _ (by rw [hsize]; exact hdl) fun j u hj => ?_
            rw [List.getElem?_drop] at hj
            have := World.ownsRow.cells (w := w) hown (g := g) (by rw [hp]; rfl) _ u hj
            rw [Addr.add_lit, Addr.add_lit, Nat.zero_add]
            rw [Addr.add_lit, Nat.zero_add] at this
            exact this
        have hr2 := run_append_grow_src (P := C.P) w t t ty e i z ht hi hz B len cap _ hold (.slice (some q) m c) m news (Src.ofSlice w ht q m c news (by rw [hsize]; exact hl) hr h1) (by omega) (by
          have : len + m ≤ (len + m) * bytes := Nat.le_mul_of_pos_right _ hb0
          omega) (growslice_fits (by omega) (by rw [hby]; exact hfits))
        have h63 : len + m ≤ maxLen := by
          have : len + m ≤ (len + m) * bytes := Nat.le_mul_of_pos_right _ hb0
          unfold maxLen; omega
        have hge := grownCap_ge w (len + m) cap e
        have hcm2 : grownCap w (len + m) cap e ≤ maxLen := grownCap_le_maxLen w (len + m) cap e h63
        have en : n + m - off = len + m := by omega
        refine ⟨(some ⟨w.heap.size, 0, none⟩, grownCap w (len + m) cap e, off), some ⟨w.heap.size, 0, none⟩, grownCap w (len + m) cap e, _, hr2, hle, Nat.le_refl _, ?_, ⟨rfl, rfl, rfl, by simp, fun k hk _ => heap_alloc_old w.drew _ k hk⟩, fun a ha => ?_, fun h => absurd h hm, by simp, fun _ => ⟨_, rfl, by simp [Addr.add]⟩, fun _ => rfl⟩
        · simp only [en]
          have hlen3 : (xs.drop ((off - lo) * size) ++ news).length = (len + m) * size := by rw [List.length_append, hdl, hl, Nat.add_mul]
          refine ⟨hlen3, .inr ⟨w.heap.size, _, _, rfl, Nat.zero_le _, heap_alloc_new w.drew _, hge, hcm2, ?_, ?_⟩⟩
          · simp only [Array.size_append, List.size_toArray, size_zeroCells, hzs, hlen3, ← Nat.add_mul]
            congr 1
            omega
          · simp only [Array.toList_append]
            rw [← hlen3]
            exact List.take_left
        · cases ha
          exact .inl (Nat.le_refl _)
theorem append_ok {d : Nat} {t : TypeId} {x s : Operand} (h : Heap C κ I st.look w) (hu : C.P.underlying t = some (.slice (C.ty t).elem)) (hE : Elem C good (C.ty t).elem) (ho : o.op = .call { callee := .builtin .append, args := #[s, x], argTypes := #[t, t] }) (hρ : ∀ x, VR C κ I st.look w (ev C st.look x) (ρ x)) (hm : memOp C st.look d o.op = some a) : Does C κ I st w ρ o a := by
  rw [ho] at hm
  simp only [memOp] at hm
  obtain ⟨ys, h1, h2⟩ := Option.bind_eq_some_iff.1 hm
  obtain ⟨A, cap, vals, hx, hys, hread⟩ := elems_ok h (hρ x) h1
  obtain ⟨i, hi, hsz, hby⟩ := hE.ok.info
  obtain ⟨z, i', hi', hz, hz1, hzk⟩ := zero_KR (w := w) (I := I) hE
  rw [hi] at hi'
  cases hi'
  have hzl : z.cells.size = (C.ty (C.ty t).elem).sz := by
    have := hzk.length
    rw [hE.zero, Array.length_toList] at this
    exact this.symm
  have hexec : ∀ {v' : Value} {w' : World}, (Builtin.append_ #[t, t] o.type #[ρ s, ρ x]).run C.P w = .ok v' w' → (execOp ρ o).run C.P w = .ok (.value v') w' := by
    intro v' w' hr
    unfold execOp
    simp only [ho, resolve, invoke, builtin, Sem.run_bind, Sem.run_pure, Result.andThen_ok, List.map_toArray, List.map_cons, List.map_nil, hr]
  have hs := hρ s
  cases hes : ev C st.look s with
  | nil =>
    rw [hes] at h2 hs
    have hs : ρ s = .slice none 0 0 := by simpa only [VR, VA, V1, KR] using hs
    cases ys with
    | nil =>
      have ha : a = { v := .nil } := by
        simp only [appendTo] at h2
        exact (Option.some.inj h2).symm
      subst ha
      refine ⟨_, .slice none 0 0, w, κ, I, hexec ?_, .inl rfl, Left.refl h, ?_⟩
      · rw [hs, hx]
        exact run_append_nothing w t t _ _ i hu hi none 0 0 (Nat.le_refl _) _ (src_nothing hu A cap)
      · simp only [VR, VA, V1, KR]
    | cons y ys =>
      simp only [appendTo] at h2
      cases hk : st.look.m (64 * d) with
      | some _ => rw [hk] at h2; cases h2
      | none =>
        rw [hk] at h2
        simp only at h2
        split at h2
        · rename_i hb
          cases h2
          obtain ⟨p, hp, hr⟩ := hread (by simp)
          subst hp
          obtain ⟨p', w', hrun, hown, hgr, a, ha, hw⟩ := append_where (C := C) (w := w) (t := t) (ty := o.type) (p := (none, 0)) (n := 0) (xs := []) (m := ys.length + 1) (c := cap) (A := p) hu hi hz hsz hby hzl hE.pos hE.bytes ⟨by simp, .inl ⟨rfl, rfl⟩⟩ (by omega) (hys.flat) hr (All2.flat_one C κ st hys) (by rw [Nat.zero_add]; exact hb)
          rw [Nat.zero_add] at hrun hown
          have hle := set_blk (B' := { froz := false, n := ys.length + 1, e := (C.ty t).elem, xs := y :: ys }) (p := (p'.1, p'.2, 0)) (L' := (memAfter st { v := .ref (64 * d) 0 (ys.length + 1) (ys.length + 1), wm := [(64 * d, { froz := false, n := ys.length + 1, e := (C.ty t).elem, xs := y :: ys })] }).look) h (fun j => get_put _ _ _ _) (fun j => rfl) (fun B hB => by rw [hk] at hB; cases hB) hgr (fun g hg => by cases hg) (fun a' ha' => by
            rw [ha] at ha'
            cases ha'
            rcases hw with hw | hw
            · exact .inl hw
            · cases hw) ⟨by simp, ⟨vals, ?_, ?_⟩, ?_, ?_⟩
          · refine ⟨_, _, w', _, _, hexec (by rw [hs, hx]; exact hrun), .inl rfl, hle, whole_VR (p := (p'.1, p'.2, 0)) (B := { froz := false, n := ys.length + 1, e := (C.ty t).elem, xs := y :: ys }) (if_pos rfl) ?_ rfl fun _ => ⟨_, ha⟩⟩
            show Map.get (64 * d) (Map.put (64 * d) _ st.m) = _
            rw [get_put, if_pos rfl]
          · rw [show (κ.setBlk (64 * d) (p'.1, p'.2, 0)).blk (64 * d) = (p'.1, p'.2, 0) from if_pos rfl]
            refine hys.mono fun el vs he => ⟨he.1, he.2.mono fun c u hc => KR_mono (fun _ hi => hi) (fun j hj => hgr.block j (h.imm j hj) (by simp [Value.ownBlock])) hc⟩
          · rw [show (κ.setBlk (64 * d) (p'.1, p'.2, 0)).blk (64 * d) = (p'.1, p'.2, 0) from if_pos rfl]
            exact hown
          · rw [show (κ.setBlk (64 * d) (p'.1, p'.2, 0)).blk (64 * d) = (p'.1, p'.2, 0) from if_pos rfl]
            exact Nat.zero_le _
          · intro a' ha'
            rw [show (κ.setBlk (64 * d) (p'.1, p'.2, 0)).blk (64 * d) = (p'.1, p'.2, 0) from if_pos rfl] at ha'
            simp only [ha] at ha'
            cases ha'
            refine ⟨fun hf => (by cases hf), fun _ hi => ?_⟩
            rcases hw with hw | hw
            · have := h.imm _ hi; omega
            · cases hw
        · cases h2
  | ref k off len ver =>
    rw [hes] at h2 hs
    simp only [appendTo] at h2
    obtain ⟨B, hB, h3⟩ := Option.bind_eq_some_iff.1 h2
    clear h2 hm
    split at h3
    · rename_i hc
      obtain ⟨hfr, hBe, hver, hol, hb⟩ := hc
      obtain ⟨B', A', cap', h4, h5, h6, h7⟩ := (show V1 C κ I st.look w (.ref k off len ver) (ρ s) by simpa only [VR, VA] using hs)
      rw [hB] at h4
      cases h4
      obtain ⟨hlo, h8, h9, h10, h11⟩ := h7 hver
      obtain ⟨olds, ho1, ho2⟩ := (h.blk k B hB).row
      have hown := (h.blk k B hB).own
      have hle0 := (h.blk k B hB).le
      have ha : a = { v := .ref k off (len + ys.length) (B.n + ys.length), wm := [(k, { froz := false, n := B.n + ys.length, e := (C.ty t).elem, xs := B.xs ++ ys })] } := (Option.some.inj h3).symm
      subst ha
      have hbl := (h.blk k B hB).len
      rw [hBe] at ho1 ho2 h10
      obtain ⟨p', A2, cap2, w', hrun, hl1, hl2, hown', hgr, hp', hp0, hc2, hA2, hB2⟩ := append_tail (C := C) (w := w) (t := t) (ty := o.type) (p := κ.blk k) (n := B.n) (off := off) (len := len) (cap := cap') (B := A') (m := ys.length) (c := cap) (A := A) hu hi hz hsz hby hzl hE.pos hE.bytes ho2 hlo hol h9 h10 h11 (hys.flat) (fun h0 => hread (fun e => by rw [e] at h0; exact absurd h0 (by simp))) (All2.flat_one C κ st hys) hb
      have hI : ∀ j, I j → w'.heap[j]? = w.heap[j]? := fun j hj => hgr.block j (h.imm j hj) fun e => by
        cases hk : (κ.blk k).1 with
        | none => rw [hk] at e; cases e
        | some a => rw [hk] at e; cases e; exact (hown a hk).2 hfr hj
      have hκ : (κ.setBlk k p').blk k = p' := if_pos rfl
      have hle := set_blk (B' := { froz := false, n := B.n + ys.length, e := (C.ty t).elem, xs := B.xs ++ ys }) (p := p') (L' := (memAfter st { v := .ref k off (len + ys.length) (B.n + ys.length), wm := [(k, { froz := false, n := B.n + ys.length, e := (C.ty t).elem, xs := B.xs ++ ys })] }).look) (key := k) h (fun j => get_put _ _ _ _) (fun j => rfl) (fun B1 hB1 => by
          rw [hB] at hB1; cases hB1
          exact ⟨hfr, hBe.symm, Nat.le_add_right _ _, fun e => hp0 (by simpa using e)⟩) hgr (fun g hg => by
          cases hk : (κ.blk k).1 with
          | none => rw [hk] at hg; cases hg
          | some a => rw [hk] at hg; cases hg; exact ⟨B, a, hB, rfl, rfl⟩) hp' ⟨by simp [hbl], ⟨olds.drop (p'.2.2 - (κ.blk k).2.2) ++ vals, ?_, ?_⟩, ?_, ?_⟩
      · refine ⟨_, _, w', _, _, hexec (by rw [h5, hx]; exact hrun), .inl rfl, hle, ?_⟩
        refine ⟨{ froz := false, n := B.n + ys.length, e := (C.ty t).elem, xs := B.xs ++ ys }, A2, cap2, ?_, rfl, Nat.le_refl _, fun _ => ?_⟩
        · show Map.get k (Map.put k _ st.m) = _
          rw [get_put, if_pos rfl]
        · rw [hκ]
          exact ⟨hl2, by show off + (len + ys.length) ≤ B.n + ys.length; omega, hc2, hA2, hB2⟩
      · rw [hκ]
        have e1 : (B.xs ++ ys).drop p'.2.2 = (B.xs.drop (κ.blk k).2.2).drop (p'.2.2 - (κ.blk k).2.2) ++ ys := by
          rw [List.drop_append_of_le_length (by omega), List.drop_drop, show (κ.blk k).2.2 + (p'.2.2 - (κ.blk k).2.2) = p'.2.2 by omega]
        rw [e1]
        exact ((ho1.drop _).append hys).mono fun el vs he => ⟨he.1, he.2.mono fun c u hc => KR_mono (fun _ hi => hi) hI hc⟩
      · rw [hκ, List.flatten_append]
        have e2 : (olds.drop (p'.2.2 - (κ.blk k).2.2)).flatten = olds.flatten.drop ((p'.2.2 - (κ.blk k).2.2) * (C.ty (C.ty t).elem).sz) := by
          have hall := All2.flatten_len (sz := (C.ty (C.ty t).elem).sz) (fun a b hab => by rw [← hab.2.length]; exact hab.1) ho1
          exact flatten_drop _ _ hall
        rw [e2]
        exact hown'
      · rw [hκ]
        show p'.2.2 ≤ B.n + ys.length
        omega
      · intro a' ha'
        rw [hκ] at ha'
        refine ⟨fun hf => (by cases hf), fun _ hi => ?_⟩
        rcases hp' a' ha' with hw | hw
        · have := h.imm _ hi; omega
        · cases hk : (κ.blk k).1 with
          | none => rw [hk] at hw; cases hw
          | some a =>
            rw [hk] at hw
            have hw : a.block = a'.block := Option.some.inj hw
            exact (hown a hk).2 hfr (hw ▸ hi)
    · cases h3
  | _ => rw [hes] at h2; cases h2
end
end Go.AI
/- An element's cells written. -/
namespace Go.AI
open Go Go.RowKit
section
variable {C : Cfg} {good : TypeId → Bool} {κ : Place} {I : Nat → Prop} {st : St} {w : World} {ρ : Operand → Value} {o : Oper} {a : Did}
theorem splice_get {α : Type} {A X : List α} {s : Nat} (h : s + X.length ≤ A.length) (x : Nat) : (A.take s ++ X ++ A.drop (s + X.length))[x]? = if s ≤ x ∧ x < s + X.length then X[x - s]? else A[x]? := by
  have hs : (A.take s).length = s := by rw [List.length_take]; omega
  rw [List.append_assoc, List.getElem?_append, hs]
  by_cases h1 : x < s
  · rw [if_pos h1, if_neg (by omega), List.getElem?_take, if_pos h1]
  · rw [if_neg h1, List.getElem?_append]
    by_cases h2 : x < s + X.length
    · rw [if_pos (by omega), if_pos ⟨by omega, h2⟩]
    · rw [if_neg (by omega), if_neg (by omega), List.getElem?_drop]
      congr 1
      omega
theorem All2.set {α β : Type} {R : α → β → Prop} {a : α} {b : β} (hab : R a b) : ∀ {xs : List α} {ys : List β} (i : Nat), All2 R xs ys → All2 R (xs.set i a) (ys.set i b)
  | [], [], _, _ => trivial
  | _ :: _, _ :: _, 0, h => ⟨hab, h.2⟩
  | _ :: _, _ :: _, i + 1, h => ⟨h.1, All2.set hab i h.2⟩
  | [], _ :: _, _, h => h.elim
  | _ :: _, [], _, h => h.elim
theorem take_flat {sz : Nat} (vals : List (List Value)) (hv : ∀ x ∈ vals, x.length = sz) (cur : List Value) (hc : vals.length * sz ≤ cur.length) (h : ∀ i j, j < sz → i < vals.length → cur[i * sz + j]? = (vals[i]?).bind (·[j]?)) : cur.take (vals.length * sz) = vals.flatten := by
  rcases Nat.eq_zero_or_pos sz with hs | hs
  · subst hs
    rw [Nat.mul_zero, List.take_zero]
    symm
    rw [List.flatten_eq_nil_iff]
    intro x hx
    exact List.eq_nil_of_length_eq_zero (hv x hx)
  have := flatten_toList hs vals hv (cur.take (vals.length * sz)).toArray (by simp; omega) fun i j hj hi => by
    have hlt : i * sz + j < vals.length * sz := by
      have : (i + 1) * sz ≤ vals.length * sz := Nat.mul_le_mul_right _ hi
      rw [Nat.add_mul] at this
      omega
    simp only [List.getElem?_toArray, List.getElem?_take, hlt, if_true]
    exact h i j hj hi
  simpa using this
theorem store_elem_ok {d : Nat} {t : TypeId} {x y : Operand} {k i off ver : Nat} (h : Heap C κ I st.look w) (hT : TOk C good t) (ho : o.op = .store t x y) (hρ : ∀ x, VR C κ I st.look w (ev C st.look x) (ρ x)) (hx : ev C st.look x = .eptr k i off ver) (hm : memOp C st.look d o.op = some a) : Does C κ I st w ρ o a := by
  rw [ho] at hm
  simp only [memOp] at hm
  split at hm
  · rename_i hc
    obtain ⟨hv, hl⟩ := hc
    rw [hx] at hm
    simp only [storeAt] at hm
    obtain ⟨B, hB, h2⟩ := Option.bind_eq_some_iff.1 hm
    clear hm
    split at h2
    · rename_i hc
      obtain ⟨hfr, hver⟩ := hc
      obtain ⟨cs, h3, h4⟩ := Option.bind_eq_some_iff.1 h2
      obtain ⟨new, h5, h6⟩ := Option.bind_eq_some_iff.1 h4
      obtain ⟨cs', h7, h8⟩ := Option.bind_eq_some_iff.1 h6
      clear h2 h4 h6
      split at h8
      · cases h8
      · rename_i hnk
        cases h8
        obtain ⟨h9, h10⟩ := put_some h7
        have hp := hρ x
        rw [hx] at hp
        obtain ⟨B', p, e1, hp1, _, hp2⟩ := (show V1 C κ I st.look w (.eptr k i off ver) (ρ x) by simpa only [VR, VA] using hp)
        rw [hB] at e1
        cases e1
        obtain ⟨hlo, hi, A, hA, rfl⟩ := hp2 hver
        obtain ⟨ip, hip⟩ : ∃ ip, ip = i - (κ.blk k).2.2 := ⟨_, rfl⟩
        obtain ⟨np, hnp⟩ : ∃ np, np = B.n - (κ.blk k).2.2 := ⟨_, rfl⟩
        rw [← hip] at hp1
        obtain ⟨I1, hl1, hr1⟩ := frost_all (t := st.t) (b := st.b) (refKeys (cellsOf (ev C st.look y))) (m := st.m) h
        have hcells := VA.cells (VR.VA (hρ y) hv)
        have hnew := keepL_ok h hl1.goes.imm hcells h5 hr1
        have hne : ∀ p ∈ frost st.look (refKeys (cellsOf (ev C st.look y))), p.1 ≠ k := fun p hp he => by
          have := frost_keys _ _ p hp
          rw [he] at this
          exact hnk (List.contains_iff_mem.2 this)
        have hB1 : Map.get k (Map.puts (frost st.look (refKeys (cellsOf (ev C st.look y)))) st.m) = some B := by
          rw [puts_none _ _ hne]; exact hB
        have hbk := hl1.heap.blk k B hB1
        rcases hbk.place with ⟨hn, _⟩ | ⟨g, cur, hg1, hg3, hg4, hg5, hg6⟩
        · rw [hA] at hn; cases hn
        · rw [hA] at hg1
          cases hg1
          obtain ⟨vals, hrow, hown⟩ := hbk.row
          have hvl : vals.length = np := by rw [← hrow.length, List.length_drop, hbk.len, hnp]
          have hilt : ip < np := by omega
          obtain ⟨vs, hvs1, hvs2, hvs3⟩ := hrow.get (i := ip) (a := cs) (by rw [List.getElem?_drop, show (κ.blk k).2.2 + ip = i by omega]; exact h3)
          have hnl := hnew.length
          have hcl := hcells.length
          have hvsl : vs.length = (C.ty B.e).sz := by rw [← hvs3.length]; exact hvs2
          have hfit : ip * (C.ty B.e).sz + (C.ty B.e).sz ≤ cur.size := by
            rw [hg6]
            have : (ip + 1) * (C.ty B.e).sz ≤ (κ.blk k).2.1 * (C.ty B.e).sz := Nat.mul_le_mul_right _ (by omega)
            rw [Nat.add_mul] at this
            omega
          have haddr : ((⟨g, 0, none⟩ : Addr).add (ip * (C.ty B.e).sz)).add off = ⟨g, ip * (C.ty B.e).sz + off, none⟩ := by
            rw [Addr.add_lit, Addr.add_lit, Nat.zero_add]
          have hst := storeVar_ok (w := w) (v := ρ y) (off := ip * (C.ty B.e).sz + off) hT hg3 (by omega) (by omega) (All2.mem_oneCell hcells)
          have htake : cur.toList.take (np * (C.ty B.e).sz) = vals.flatten := by
            rcases hown.2 with ⟨hn, _⟩ | ⟨g', cap', cur', hv', _, hh, _, _, _, ht⟩
            · rw [hA] at hn; cases hn
            · rw [hA] at hv'
              simp only [Value.slice.injEq, Option.some.injEq, Addr.mk.injEq, and_true, true_and] at hv'
              obtain ⟨rfl, _⟩ := hv'
              rw [hg3] at hh
              cases hh
              rw [hnp]
              exact ht
          have hlens : ∀ v ∈ vals, v.length = (C.ty B.e).sz := All2.flatten_len (fun a b hab => by rw [← hab.2.length]; exact hab.1) hrow
          have hcur : ∀ q j, j < (C.ty B.e).sz → q < vals.length → cur[q * (C.ty B.e).sz + j]? = (vals[q]?).bind (·[j]?) := by
            intro q j hj hq
            have hlt : q * (C.ty B.e).sz + j < np * (C.ty B.e).sz := by
              have : (q + 1) * (C.ty B.e).sz ≤ np * (C.ty B.e).sz := Nat.mul_le_mul_right _ (by omega)
              rw [Nat.add_mul] at this
              omega
            rw [← getElem_flatten vals q j hlens hj, ← htake, List.getElem?_take, if_pos hlt, Array.getElem?_toList]
          generalize hX : (ρ y).cells.toList = X at *
          have hcl : X.length = new.length := hnl.symm
          have hcsl : cs.length = (C.ty B.e).sz := hvs2
          have hrow' : All2 (fun el vs => el.length = (C.ty B.e).sz ∧ All2 (KR I1 w) el vs) ((B.xs.drop (κ.blk k).2.2).set ip cs') (vals.set ip (vs.take off ++ X ++ vs.drop (off + X.length))) := by
            refine All2.set ⟨?_, ?_⟩ ip hrow
            · rw [h10]
              simp only [List.length_append, List.length_take, List.length_drop]
              omega
            · rw [h10, hcl]
              exact ((hvs3.take off).append hnew).append (hvs3.drop _)
          have hlens' : ∀ v ∈ vals.set ip (vs.take off ++ X ++ vs.drop (off + X.length)), v.length = (C.ty B.e).sz := All2.flatten_len (fun a b hab => by rw [← hab.2.length]; exact hab.1) hrow'
          have hfit2 : np * (C.ty B.e).sz ≤ cur.size := by rw [hg6]; exact Nat.mul_le_mul_right _ (by omega)
          have htake' : (cur.toList.take (ip * (C.ty B.e).sz + off) ++ X ++ cur.toList.drop (ip * (C.ty B.e).sz + off + X.length)).take (np * (C.ty B.e).sz) = (vals.set ip (vs.take off ++ X ++ vs.drop (off + X.length))).flatten := by
            have hl2 : (vals.set ip (vs.take off ++ X ++ vs.drop (off + X.length))).length = np := by rw [List.length_set]; exact hvl
            rw [← hl2]
            refine take_flat _ hlens' _ ?_ fun q j hj hq => ?_
            · rw [hl2]
              simp only [List.length_append, List.length_take, List.length_drop, Array.length_toList]
              omega
            · have hcl3 : cur.toList.length = cur.size := Array.length_toList
              rw [splice_get (A := cur.toList) (s := ip * (C.ty B.e).sz + off) (by rw [hcl3]; omega), Array.getElem?_toList (xs := cur)]
              rw [List.length_set] at hq
              by_cases hqi : ip = q
              · subst hqi
                rw [List.getElem?_set_self hq, Option.bind_some, splice_get (by omega)]
                by_cases hj2 : off ≤ j ∧ j < off + X.length
                · rw [if_pos hj2, if_pos ⟨by omega, by omega⟩, show ip * (C.ty B.e).sz + j - (ip * (C.ty B.e).sz + off) = j - off by omega]
                · have hj3 : ¬ (ip * (C.ty B.e).sz + off ≤ ip * (C.ty B.e).sz + j ∧ ip * (C.ty B.e).sz + j < ip * (C.ty B.e).sz + off + X.length) := by
                    intro hh
                    exact hj2 ⟨by omega, by omega⟩
                  rw [if_neg hj3, if_neg hj2, hcur ip j hj hq, hvs1, Option.bind_some]
              · rw [List.getElem?_set_ne hqi, ← hcur q j hj hq, if_neg]
                rintro ⟨h1, h2⟩
                rcases Nat.lt_or_gt_of_ne hqi with hlt | hlt
                · have : (ip + 1) * (C.ty B.e).sz ≤ q * (C.ty B.e).sz := Nat.mul_le_mul_right _ hlt
                  rw [Nat.add_mul] at this
                  omega
                · have : (q + 1) * (C.ty B.e).sz ≤ ip * (C.ty B.e).sz := Nat.mul_le_mul_right _ hlt
                  rw [Nat.add_mul] at this
                  omega
          generalize hY : (cur.toList.take (ip * (C.ty B.e).sz + off) ++ X ++ cur.toList.drop (ip * (C.ty B.e).sz + off + X.length)) = Y at *
          have hYl : Y.length = cur.size := by
            rw [← hY]
            simp only [List.length_append, List.length_take, List.length_drop, Array.length_toList]
            omega
          have hnI : ¬ I1 g := (hbk.own _ hA).2 hfr
          have hgrow : w.grownBy (w.setRow g Y.toArray) (some g) := ⟨rfl, rfl, rfl, by rw [size_setRow]; exact Nat.le_refl _, fun j _ hj => setRow_other w g j _ (fun e => hj (by rw [e]))⟩
          have hmem : ∀ j, I1 j → (w.setRow g Y.toArray).heap[j]? = w.heap[j]? := fun j hj => setRow_other w g j _ (fun e => hnI (e ▸ hj))
          have hκ : (κ.setBlk k (κ.blk k)).blk k = κ.blk k := if_pos rfl
          have hxs : (B.xs.drop (κ.blk k).2.2).set ip cs' = (B.xs.set i cs').drop ((κ.setBlk k (κ.blk k)).blk k).2.2 := by
            rw [hκ, List.drop_set, if_neg (by omega), hip]
          have hrow2 := hrow'.mono fun el vs he => (⟨he.1, he.2.mono fun c u hc => KR_mono (fun _ hi => hi) hmem hc⟩ : el.length = (C.ty B.e).sz ∧ All2 (KR I1 (w.setRow g Y.toArray)) el vs)
          have hle := set_blk (B' := { B with xs := B.xs.set i cs' }) (p := κ.blk k) (L' := (memAfter st { v := .skip, wm := (k, { B with xs := B.xs.set i cs' }) :: frost st.look (refKeys (cellsOf (ev C st.look y))) }).look) (key := k) hl1.heap
            (fun j => puts_put _ _ hne j) (fun j => rfl) (fun B1 hB2 => by
              have hB2 : Map.get k (Map.puts (frost st.look (refKeys (cellsOf (ev C st.look y)))) st.m) = some B1 := hB2
              rw [hB1] at hB2; cases hB2
              exact ⟨hfr, rfl, Nat.le_refl _, fun _ => rfl⟩) hgrow (fun g' hg' => by cases hg'; exact ⟨B, _, hB1, hA, rfl⟩) (fun a ha => by rw [hA] at ha; cases ha; exact .inr rfl) ⟨by rw [List.length_set]; exact hbk.len, ⟨_, (show All2 _ ((B.xs.set i cs').drop ((κ.setBlk k (κ.blk k)).blk k).2.2) _ from hxs ▸ hrow2), ?_⟩, by rw [hκ]; exact hbk.le, ?_⟩
          · refine ⟨.skip, Go.undef, _, _, _, ?_, .inr ⟨rfl, rfl⟩, hl1.trans hle, rfl⟩
            unfold execOp
            rw [ho]
            rw [haddr] at hp1
            simp only [Instr.storeAt, hp1, Instr.sureAddr, Sem.run_bind, Sem.run_pure, Result.andThen_ok, hst]
          · rw [hκ, hA]
            show World.ownsRow _ _ _ _ (.slice _ (B.n - (κ.blk k).2.2) _) (B.n - (κ.blk k).2.2) _
            rw [← hnp]
            refine ⟨?_, .inr ⟨g, _, _, rfl, Nat.zero_le _, setRow_heap w g cur _ _ _ hg3, by omega, hg5, by rw [List.size_toArray, hYl]; exact hg6, by simpa using htake'⟩⟩
            rw [← htake', List.length_take, hYl]
            exact Nat.min_eq_left hfit2
          · rw [hκ]
            exact hbk.own
    · cases h2
  · cases hm
end
end Go.AI
/- Structs and arrays built; min and max. -/
namespace Go.AI
open Go Go.RowKit
section
variable {C : Cfg} {good : TypeId → Bool} {κ : Place} {I : Nat → Prop} {L : Look} {w : World} {ρ : Operand → Value} {o : Oper} {v : PV}
theorem min_ok {x y : Operand} {ts : Array TypeId} (ho : o.op = .call { callee := .builtin .min, args := #[x, y], argTypes := ts }) (hρ : ∀ x, VR C κ I L w (ev C L x) (ρ x)) (h : pureOp C L o.op = some v) : Gives C κ I L w ρ o v := by
  rw [ho] at h
  have hx := hρ x
  have hy := hρ y
  simp only [pureOp, List.map_cons, List.map_nil] at h
  cases h1 : ev C L x with
  | int k a =>
    rw [h1] at h hx
    cases h2 : ev C L y with
    | int k' b =>
      rw [h2] at h hy
      simp only at h
      split at h
      · rename_i hk
        subst hk
        cases h
        refine ⟨.int k (if b < a then b else a), ?_, rfl⟩
        unfold execOp
        simp only [ho, resolve, invoke, builtin, Sem.run_bind, Sem.run_pure, Result.andThen_ok, List.map_toArray, List.map_cons, List.map_nil, VR.int hx, VR.int hy, run_min_int2]
      · cases h
    | _ => rw [h2] at h; cases h
  | _ => rw [h1] at h; cases h
theorem max_ok {x y : Operand} {ts : Array TypeId} (ho : o.op = .call { callee := .builtin .max, args := #[x, y], argTypes := ts }) (hρ : ∀ x, VR C κ I L w (ev C L x) (ρ x)) (h : pureOp C L o.op = some v) : Gives C κ I L w ρ o v := by
  rw [ho] at h
  have hx := hρ x
  have hy := hρ y
  simp only [pureOp, List.map_cons, List.map_nil] at h
  cases h1 : ev C L x with
  | int k a =>
    rw [h1] at h hx
    cases h2 : ev C L y with
    | int k' b =>
      rw [h2] at h hy
      simp only at h
      split at h
      · rename_i hk
        subst hk
        cases h
        refine ⟨.int k (if b > a then b else a), ?_, rfl⟩
        unfold execOp
        simp only [ho, resolve, invoke, builtin, Sem.run_bind, Sem.run_pure, Result.andThen_ok, List.map_toArray, List.map_cons, List.map_nil, VR.int hx, VR.int hy, run_max_int2]
      · cases h
    | _ => rw [h2] at h; cases h
  | _ => rw [h1] at h; cases h
theorem mapM_get {α β : Type} {f : α → Option β} : ∀ {l : List α} {r : List β}, l.mapM f = some r → ∀ {i : Nat} {a : α}, l[i]? = some a → ∃ b, f a = some b ∧ r[i]? = some b
  | [], _, _, i, a, h => by simp at h
  | x :: l, r, h, i, a, hi => by
    simp only [List.mapM_cons, Option.bind_eq_bind, Option.pure_def] at h
    obtain ⟨b, h1, h⟩ := Option.bind_eq_some_iff.1 h
    obtain ⟨s, h2, h⟩ := Option.bind_eq_some_iff.1 h
    cases h
    cases i with
    | zero => simp only [List.getElem?_cons_zero, Option.some.injEq] at hi; subst hi; exact ⟨b, h1, rfl⟩
    | succ i => simp only [List.getElem?_cons_succ] at hi ⊢; exact mapM_get h2 hi
/-- A part laid. -/
theorem lay_part (cells : Array Value) (X : Array Value) (off : Nat) (h : off + X.size ≤ cells.size) : (X.zipIdx.foldl (fun cs (c, j) => cs.setIfInBounds (off + j) c) cells).toList = cells.toList.take off ++ X.toList ++ cells.toList.drop (off + X.toList.length) := by
  have e1 : X.toList.length = X.size := Array.length_toList
  have e2 : cells.toList.length = cells.size := Array.length_toList
  obtain ⟨h1, h2⟩ := Great.foldl_set off X.toList 0 cells
  have he : X.zipIdx.foldl (fun cs (c, j) => cs.setIfInBounds (off + j) c) cells = (X.toList.zipIdx 0).foldl (fun cs (x : Value × Nat) => cs.setIfInBounds (off + x.2) x.1) cells := by
    rw [← Array.foldl_toList, Array.toList_zipIdx]
  rw [he]
  apply List.ext_getElem?
  intro k
  rw [splice_get (by omega), Array.getElem?_toList, Array.getElem?_toList (xs := cells), h2 k]
  simp only [Nat.add_zero]
  by_cases hk : off ≤ k ∧ k < off + X.toList.length
  · rw [if_pos hk, if_pos ⟨hk.1, hk.2, by omega⟩]
  · rw [if_neg hk, if_neg fun h => hk ⟨h.1, h.2.1⟩]
theorem fill_ok {t : TypeId} {place : Nat → Option (Nat × Nat)} (hpl : ∀ (i off n : Nat), ((match (C.ty t).alen with | some _ => some (i * (C.ty (C.ty t).elem).sz, (C.ty (C.ty t).elem).sz) | none => (C.ty t).offs[i]?.bind fun o => (C.ty t).fsz[i]?.map fun n => (o, n)) = some (off, n)) → place i = some (off, n)) (hρ : ∀ x, VR C κ I L w (ev C L x) (ρ x)) :
    ∀ (parts : List (Nat × Operand)) (cs rs : List PV) (cells : Array Value), All2 (V1 C κ I L w) cs cells.toList → fill C L t parts cs = some rs → ∃ r, Instr.fill place cells (parts.map fun (i, x) => (i, ρ x)) = some r ∧ All2 (V1 C κ I L w) rs r.toList
  | [], cs, rs, cells, hc, h => by
    cases h
    exact ⟨cells, rfl, hc⟩
  | (i, x) :: l, cs, rs, cells, hc, h => by
    simp only [fill] at h
    obtain ⟨p, h1, h⟩ := Option.bind_eq_some_iff.1 h
    split at h
    · rename_i hv
      obtain ⟨hv, hl⟩ := hv
      obtain ⟨cs', h2, h3⟩ := Option.bind_eq_some_iff.1 h
      obtain ⟨h4, h5⟩ := put_some h2
      have hcells := VA.cells (VR.VA (hρ x) hv)
      have hlen := hcells.length
      have hcl := hc.length
      have e1 : (ρ x).cells.toList.length = (ρ x).cells.size := Array.length_toList
      have e2 : cells.toList.length = cells.size := Array.length_toList
      have hp := hpl i p.1 p.2 h1
      simp only [List.map_cons, Instr.fill, hp]
      rw [if_neg (by simp; omega)]
      refine fill_ok hpl hρ l cs' rs _ ?_ h3
      rw [lay_part _ _ _ (by omega), h5, hcells.length]
      exact ((hc.take _).append hcells).append (hc.drop _)
    · cases h
theorem build_ok {t : TypeId} {parts : Array (Nat × Operand)} (hT : TOk C good t) (hty : Types C good) (hb : ∃ z, C.P.built t [] = some z ∧ True) (hz : (C.ty t).zero.length = (C.ty t).sz) (ho : o.op = .build t parts) (hρ : ∀ x, VR C κ I L w (ev C L x) (ρ x)) (h : pureOp C L o.op = some v) : Gives C κ I L w ρ o v := by
  rw [ho] at h
  simp only [pureOp] at h
  obtain ⟨rs, h1, rfl⟩ := Option.map_eq_some_iff.1 h
  obtain ⟨i, z, hi, hiz, hz0⟩ := hT.zero hz
  have hz1 : All2 (V1 C κ I L w) (C.ty t).zero z.cells.toList := hz0.mono fun c v hcv => by
    rcases hcv with ⟨rfl, h⟩ | h
    · exact h
    · exact .of_KR C κ I L w (h I w)
  have hbuilt : ∃ place, (∀ ps, C.P.built t ps = Instr.fill place z.cells ps) ∧ (∀ (i off n : Nat), ((match (C.ty t).alen with | some _ => some (i * (C.ty (C.ty t).elem).sz, (C.ty (C.ty t).elem).sz) | none => (C.ty t).offs[i]?.bind fun o => (C.ty t).fsz[i]?.map fun n => (o, n)) = some (off, n)) → place i = some (off, n)) := by
    obtain ⟨z0, hb, _⟩ := hb
    unfold Program.built at hb
    rw [hi] at hb
    cases hu : C.P.underlying t with
    | none => rw [hu] at hb; cases hb
    | some d =>
      rw [hu] at hb
      cases d with
      | array n e =>
        simp only at hb
        cases hie : C.P.info? e with
        | none => rw [hiz, hie] at hb; cases hb
        | some ie =>
          refine ⟨fun i => some (i * ie.size, ie.size), fun ps => by simp only [Program.built, hi, hu, hiz, hie], fun j off n' hj => ?_⟩
          cases ha : (C.ty t).alen with
          | some m =>
            rw [ha] at hj
            obtain ⟨h5, h6, _⟩ := hT.alen m ha
            rw [hu] at h5
            cases h5
            obtain ⟨i', h7, h8, _⟩ := (hty _ h6).info
            rw [hie] at h7
            cases h7
            rw [h8]
            exact hj
          | none =>
            rw [ha] at hj
            obtain ⟨o', h5, _⟩ := Option.bind_eq_some_iff.1 hj
            obtain ⟨fs, f, j', h6, _⟩ := hT.offs _ _ h5
            rw [hu] at h6
            cases h6
      | struct fs =>
        simp only at hb
        cases hpl : fs.toList.mapM (fun f => (C.P.info? f.type).map fun i => (f.offset, i.size)) with
        | none => rw [hiz, hpl] at hb; cases hb
        | some places =>
          refine ⟨(places.toArray[·]?), fun ps => by simp only [Program.built, hi, hu, hiz, hpl], fun j off n' hj => ?_⟩
          cases ha : (C.ty t).alen with
          | some m =>
            obtain ⟨h5, _⟩ := hT.alen m ha
            rw [hu] at h5
            cases h5
          | none =>
            rw [ha] at hj
            obtain ⟨o', h5, hj⟩ := Option.bind_eq_some_iff.1 hj
            obtain ⟨n2, h6, hj⟩ := Option.map_eq_some_iff.1 hj
            cases hj
            obtain ⟨fs', f, j', h7, h8, h9, h10, _, h11, _⟩ := hT.offs _ _ h5
            rw [hu] at h7
            cases h7
            rw [h6] at h11
            cases h11
            obtain ⟨b, hb1, hb2⟩ := mapM_get hpl (i := j) (a := f) (by rw [Array.getElem?_toList]; exact h8)
            rw [h10] at hb1
            cases hb1
            show places.toArray[j]? = _
            rw [List.getElem?_toArray, hb2, h9]
      | _ => cases hb
  obtain ⟨place, hp1, hp2⟩ := hbuilt
  obtain ⟨r, h2, h3⟩ := fill_ok hp2 hρ parts.toList _ rs z.cells hz1 h1
  have hrun := run_build (P := C.P) w t (parts.map fun (i, x) => (i, ρ x)) r (by rw [hp1, Array.toList_map]; exact h2)
  exact Gives.of (s := Instr.build t (parts.map fun (i, x) => (i, ρ x))) (by unfold execOp; rw [ho]) hrun ⟨r, rfl, h3⟩
end
end Go.AI
/- Every operation but calls. -/
namespace Go.AI
open Go Go.RowKit
section
variable (C : Cfg) (good : TypeId → Bool)
def elemB (e : TypeId) : Bool := good e && decide (0 < (C.ty e).sz) && decide (0 < (C.ty e).bytes) && decide ((C.ty e).zero.length = (C.ty e).sz) && (C.ty e).zero.all fun c => match c with
  | .undef => false
  | _ => true
def sliceB (t : TypeId) : Bool := good t && (C.ty t).slc && elemB C good (C.ty t).elem
/-- The operation's types are known to the table. -/
def opOk : Op → Bool
  | .load t _ | .store t _ _ | .fieldAddr t _ _ | .field t _ _ | .indexAddr t _ _ | .index t _ _ | .slice t _ _ _ _ => good t
  | .binOp _ t _ _ _ => good t
  | .convert s t _ => good s && good t
  | .build t _ => good t && decide ((C.ty t).zero.length = (C.ty t).sz) && (C.P.built t []).isSome
  | .alloc t => good t && decide ((C.ty t).zero.length = (C.ty t).sz)
  | .makeFunc _ b _ => b.isEmpty
  | .call { callee := .builtin .append, args := _, argTypes := ts } => match ts.toList with
    | [t, t'] => decide (t = t') && sliceB C good t
    | _ => false
  | .call { callee := .builtin .len, args := _, argTypes := ts } => ts.all good
  | .buildSlice t n _ => sliceB C good t && decide (n * (C.ty (C.ty t).elem).sz ≤ 2 ^ 24)
  | .makeSlice t _ _ => sliceB C good t
  | _ => true
end
structure Facts (C : Cfg) (good : TypeId → Bool) : Prop where
  ty : Types C good
  eq : ∀ t, good t = true → EqOk C t
section
variable {C : Cfg} {good : TypeId → Bool} {κ : Place} {I : Nat → Prop} {st : St} {w : World} {ρ : Operand → Value} {o : Oper} {a : Did}
theorem elemB_ok (hF : Facts C good) {e : TypeId} (h : elemB C good e = true) : Elem C good e := by
  simp only [elemB, Bool.and_eq_true, decide_eq_true_eq, List.all_eq_true] at h
  obtain ⟨⟨⟨⟨h1, h2⟩, h3⟩, h4⟩, h5⟩ := h
  exact ⟨hF.ty _ h1, h2, h3, h4, fun c hc e => by
    have := h5 c hc
    rw [e] at this
    cases this⟩
theorem sliceB_ok (hF : Facts C good) {t : TypeId} (h : sliceB C good t = true) : C.P.underlying t = some (.slice (C.ty t).elem) ∧ Elem C good (C.ty t).elem := by
  simp only [sliceB, Bool.and_eq_true] at h
  exact ⟨((hF.ty _ h.1.1).slc h.1.2).1, elemB_ok hF h.2⟩
theorem Gives.does {v : PV} (h : Heap C κ I st.look w) (hg : Gives C κ I st.look w ρ o v) : Does C κ I st w ρ o { v } := by
  obtain ⟨v', h1, h2⟩ := hg
  exact ⟨_, v', w, κ, I, h1, .inl rfl, Left.refl h, h2⟩
theorem pure_ok {v : PV} (hF : Facts C good) (h : Heap C κ I st.look w) (hk : opOk C good o.op = true) (hρ : ∀ x, VR C κ I st.look w (ev C st.look x) (ρ x)) (hp : pureOp C st.look o.op = some v) : Gives C κ I st.look w ρ o v := by
  have hty := hF.ty
  cases ho : o.op with
  | move x => rw [ho] at hp; cases hp; exact move_ok ho hρ
  | assign x => rw [ho] at hp; cases hp; exact assign_ok ho hρ
  | pick c x y => exact pick_ok ho hρ hp
  | load t x => rw [ho] at hk; exact load_ok (hty _ hk) h.mem ho hρ hp
  | nilCheck x => exact nilCheck_ok ho hρ hp
  | fieldAddr t x n => rw [ho] at hk; exact fieldAddr_ok (hty _ hk) ho hρ hp
  | field t x n => rw [ho] at hk; exact field_ok (hty _ hk) hty ho hρ hp
  | indexAddr t x n => rw [ho] at hk; exact indexAddr_ok (hty _ hk) hty ho hρ hp
  | index t x n => rw [ho] at hk; exact index_ok (hty _ hk) hty ho hρ hp
  | slice t x lo hi mx =>
    rw [ho] at hk
    cases mx with
    | none => exact slice_ok h.cap (hty _ hk) hty ho hρ hp
    | some _ => rw [ho] at hp; cases hp
  | binOp op t x y ty => rw [ho] at hk; exact binOp_ok (hF.eq _ hk) ho hρ hp
  | unOp op t x =>
    cases op with
    | not => exact not_ok ho hρ hp
    | neg => exact neg_ok ho hρ hp
    | _ => rw [ho] at hp; cases hp
  | convert s t x =>
    rw [ho] at hk
    simp only [opOk, Bool.and_eq_true] at hk
    exact convert_ok (hty _ hk.1) (hty _ hk.2) ho hρ hp
  | extract x i => exact extract_ok ho hρ hp
  | build t parts =>
    rw [ho] at hk
    simp only [opOk, Bool.and_eq_true, decide_eq_true_eq] at hk
    obtain ⟨z, hz⟩ := Option.isSome_iff_exists.1 hk.2
    exact build_ok (hty _ hk.1.1) hty ⟨z, hz, trivial⟩ hk.1.2 ho hρ hp
  | makeFunc g b cap =>
    rw [ho] at hk
    have hb : b = #[] := by simpa [opOk] using hk
    subst hb
    cases g with
    | func g => exact makeFunc_ok ho hρ hp
    | _ => rw [ho] at hp; cases hp
  | call c =>
    obtain ⟨ce, xs, ts⟩ := c
    cases ce with
    | builtin b =>
      cases b with
      | len =>
        rw [ho] at hp hk
        simp only [pureOp] at hp
        split at hp
        · rename_i x t h1 h2
          have hx : xs = #[x] := by rw [← Array.toList_inj]; exact h1
          have ht : ts = #[t] := by rw [← Array.toList_inj]; exact h2
          subst hx ht
          have hg : good t = true := by simpa [opOk] using hk
          exact len_ok (hty _ hg) ho hρ (by rw [ho]; exact hp)
        · cases hp
      | min =>
        have hp' := hp
        rw [ho] at hp
        simp only [pureOp] at hp
        split at hp
        · rename_i k p k' q h1
          obtain ⟨xs⟩ := xs
          cases xs with
          | nil => cases h1
          | cons x xs =>
            cases xs with
            | nil => simp at h1
            | cons y xs =>
              cases xs with
              | nil => exact min_ok ho hρ hp'
              | cons _ _ => simp at h1
        · cases hp
      | max =>
        have hp' := hp
        rw [ho] at hp
        simp only [pureOp] at hp
        split at hp
        · rename_i k p k' q h1
          obtain ⟨xs⟩ := xs
          cases xs with
          | nil => cases h1
          | cons x xs =>
            cases xs with
            | nil => simp at h1
            | cons y xs =>
              cases xs with
              | nil => exact max_ok ho hρ hp'
              | cons _ _ => simp at h1
        · cases hp
      | _ => rw [ho] at hp; cases hp
    | _ => rw [ho] at hp; cases hp
  | _ => rw [ho] at hp; cases hp
theorem mem_ok {d : Nat} (hF : Facts C good) (h : Heap C κ I st.look w) (hk : opOk C good o.op = true) (hρ : ∀ x, VR C κ I st.look w (ev C st.look x) (ρ x)) (hm : memOp C st.look d o.op = some a) : Does C κ I st w ρ o a := by
  have hty := hF.ty
  cases ho : o.op with
  | alloc t =>
    rw [ho] at hk
    simp only [opOk, Bool.and_eq_true, decide_eq_true_eq] at hk
    exact alloc_ok h (hty _ hk.1) hk.2 ho hm
  | box t x => exact box_ok h ho hρ hm
  | store t x y =>
    rw [ho] at hk
    cases hx : ev C st.look x with
    | ptr k off => exact store_box_ok h (hty _ hk) ho hρ hx hm
    | eptr k i off ver => exact store_elem_ok h (hty _ hk) ho hρ hx hm
    | _ =>
      rw [ho] at hm
      simp only [memOp, hx, storeAt] at hm
      split at hm <;> cases hm
  | buildSlice t n parts =>
    rw [ho] at hk
    simp only [opOk, Bool.and_eq_true, decide_eq_true_eq] at hk
    obtain ⟨h1, h2⟩ := sliceB_ok hF hk.1
    exact buildSlice_ok h h1 h2 hk.2 ho hρ hm
  | makeSlice t x y =>
    rw [ho] at hk
    obtain ⟨h1, h2⟩ := sliceB_ok hF (t := t) hk
    exact makeSlice_ok h h1 h2 ho hρ hm
  | call c =>
    obtain ⟨ce, xs, ts⟩ := c
    cases ce with
    | builtin b =>
      cases b with
      | append =>
        have hm' := hm
        rw [ho] at hm hk
        simp only [opOk] at hk
        split at hk
        · rename_i t t' h1
          have ht : ts = #[t, t'] := by rw [← Array.toList_inj]; exact h1
          simp only [Bool.and_eq_true, decide_eq_true_eq] at hk
          obtain ⟨e, hs⟩ := hk
          subst e ht
          obtain ⟨h1, h2⟩ := sliceB_ok hF hs
          obtain ⟨xs⟩ := xs
          cases xs with
          | nil => cases hm
          | cons x xs =>
            cases xs with
            | nil => cases hm
            | cons y xs =>
              cases xs with
              | nil => exact append_ok h h1 h2 ho hρ hm'
              | cons _ _ => cases hm
        · cases hk
      | _ => rw [ho] at hm; cases hm
    | _ => rw [ho] at hm; cases hm
  | _ => rw [ho] at hm; cases hm
theorem op_ok {call : Caller} {f : FuncId} (hF : Facts C good) (h : Heap C κ I st.look w) (hk : opOk C good o.op = true) (hρ : ∀ x, VR C κ I st.look w (ev C st.look x) (ρ x)) (hc : kindOf o.op ≠ .call) (hm : opW C st.look call f o = some a) : Does C κ I st w ρ o a := by
  unfold opW at hm
  split at hm
  · obtain ⟨v, hv, rfl⟩ := Option.map_eq_some_iff.1 hm
    exact (pure_ok hF h hk hρ hv).does h
  · exact mem_ok hF h hk hρ hm
  · rename_i he
    exact absurd he hc
end
end Go.AI
/- A frame's steps. -/
namespace Go.AI
open Go Go.RowKit
/-- Where a function began. -/
structure Base where
  κ : Place
  I : Nat → Prop
  L : Look
  w : World
/-- A frame in its world stands as the state tells. -/
structure Fr (C : Cfg) (S : Base) (nt : Nat) (κ : Place) (I : Nat → Prop) (st : St) (a : Act) (w : World) : Prop where
  heap : Heap C κ I st.look w
  tmps : ∀ t, VR C κ I st.look w (st.look.t t) (a.tmps.getD t Go.undef)
  size : nt ≤ a.tmps.size
  defers : a.defers = []
  goes : Goes C S.κ κ S.I I S.L st.look S.w w
  since : Since S.κ κ S.I I S.L st.look S.w w
def Rel (C : Cfg) (S : Base) (nt : Nat) (st : St) (a : Act) (w : World) : Prop := ∃ κ I, Fr C S nt κ I st a w
section
variable {C : Cfg} {good : TypeId → Bool} {S : Base} {nt : Nat} {κ : Place} {I : Nat → Prop} {st : St} {a : Act} {w : World}
theorem Fr.ev (h : Fr C S nt κ I st a w) (hg : ∀ g, C.glob g = none) (x : Operand) : VR C κ I st.look w (ev C st.look x) (a.eval x) := by
  cases x with
  | tmp t => exact h.tmps t
  | const v => exact ofConst_VR v
  | func f => exact ⟨#[], rfl, trivial⟩
  | global g => simp only [AI.ev, hg]; trivial
/-- A value put into its temporary. -/
theorem Fr.put (h : Fr C S nt κ I st a w) {κ' : Place} {I' : Nat → Prop} {w' : World} {d : Did} {v : Value} {dst : Option Tmp} (hd : ∀ t, dst = some t → t < nt) (hl : Left C κ κ' I I' st.look (memAfter st d).look w w') (hv : VR C κ' I' (memAfter st d).look w' d.v v) :
    Fr C S nt κ' I' (st.after dst d) (a.put dst v) w' := by
  have hlook : ∀ t u, (St.after st dst d).look.t t = u → True := fun _ _ _ => trivial
  have hg : Goes C S.κ κ' S.I I' S.L (st.after dst d).look S.w w' := by
    have := h.goes.trans hl.goes
    exact ⟨this.imm, this.mem, this.box, this.blk⟩
  have hs : Since S.κ κ' S.I I' S.L (st.after dst d).look S.w w' := by
    have := h.since.trans hl.since (fun j hj => (h.goes.box j hj).2) fun j hj => (hl.goes.box j hj).2
    exact ⟨this.os, this.tape, this.output, this.size, this.keep, this.new, this.box, this.blk⟩
  refine { heap := ?_, tmps := fun t => ?_, size := ?_, defers := ?_, goes := hg, since := hs }
  · have := hl.heap
    exact ⟨this.imm, this.box, this.blk, this.bb, this.bm, this.mm⟩
  · have hgo : ∀ u, VR C κ' I' (memAfter st d).look w' (st.look.t t) u = VR C κ' I' (memAfter st d).look w' (st.look.t t) u := fun _ => rfl
    cases dst with
    | none => exact VR.go hl.goes (h.tmps t)
    | some t' =>
      have ht := hd t' rfl
      show VR C κ' I' (memAfter st d).look w' ((Map.get t (Map.put t' d.v st.t)).getD .undef) ((a.tmps.setIfInBounds t' v).getD t Go.undef)
      rw [get_put]
      by_cases e : t' = t
      · subst e
        rw [if_pos rfl]
        have hlt : t' < a.tmps.size := Nat.lt_of_lt_of_le ht h.size
        rw [Array.getD_eq_getD_getElem?, Array.getElem?_setIfInBounds_self_of_lt hlt]
        exact hv
      · rw [if_neg e, Array.getD_eq_getD_getElem?, Array.getElem?_setIfInBounds_ne e, ← Array.getD_eq_getD_getElem?]
        exact VR.go hl.goes (h.tmps t)
  · cases dst <;> simpa [Act.put] using h.size
  · cases dst <;> exact h.defers
theorem Fr.guard (h : Fr C S nt κ I st a w) {ops : Array Oper} {o : Oper} {g : Bool} (hg : guardOk ops.toList st.look o.guard = some g) : Region.wanted o (yielded ops a.tmps) = g := by
  unfold Region.wanted
  cases hgd : o.guard with
  | none => rw [hgd] at hg; cases hg; rfl
  | some p =>
    obtain ⟨j, want⟩ := p
    rw [hgd] at hg
    simp only [guardOk, Array.getElem?_toList] at hg
    cases ht : (ops[j]?).bind (·.dst) with
    | none => rw [ht] at hg; cases hg
    | some t =>
      rw [ht] at hg
      have hv := h.tmps t
      simp only [Option.map_some] at hg
      unfold yielded
      simp only [ht, Option.bind_some]
      cases hc : st.look.t t with
      | bool b =>
        rw [hc] at hv hg
        simp only [Option.some.injEq] at hg
        have hv : a.tmps.getD t Go.undef = .bool b := by simpa only [VR, VA, V1, KR] using hv
        rw [Array.getD_eq_getD_getElem?] at hv
        cases hx : a.tmps[t]? with
        | none => rw [hx] at hv; cases hv
        | some u =>
          rw [hx] at hv
          simp only [Option.getD_some] at hv
          subst hv
          rw [← hg]
          cases b <;> cases want <;> rfl
      | skip =>
        rw [hc] at hv hg
        simp only [Option.some.injEq] at hg
        have hv : a.tmps.getD t Go.undef = Go.undef := hv
        rw [Array.getD_eq_getD_getElem?] at hv
        cases hx : a.tmps[t]? with
        | none => rw [← hg]; cases want <;> rfl
        | some u =>
          rw [hx] at hv
          simp only [Option.getD_some] at hv
          subst hv
          rw [← hg]
          cases want <;> rfl
      | _ => rw [hc] at hg; cases hg
end
end Go.AI
/- Drawn regions: the check. -/
namespace Go.AI
open Go
def addsOnly (C : Cfg) (op : Op) : Bool := match op with
  | .alloc _ | .box .. | .buildSlice .. | .makeSlice .. => true
  | .call { callee := .value (.func f), .. } => (C.io f).isEmpty
  | .call { callee := .value _, .. } => true
  | op => match kindOf op with
    | .pure => true
    | _ => false
def isPure (op : Op) : Bool := match kindOf op with
  | .pure => true
  | _ => false
/-- j and i may change places. -/
def comm (C : Cfg) (ops : Array Oper) (j i : Oper) : Bool := (isPure i.op && addsOnly C j.op && i.apart ops j) || (isPure j.op && addsOnly C i.op && j.apart ops i)
/-- What an operation waits for. -/
def deps (ops : Array Oper) (i : Nat) : List Nat := match ops[i]? with
  | some o => (o.after.toList.filter fun e => Region.binds .any e).map (·.on)
  | none => []
def anc (ops : Array Oper) : Nat → Nat → List Nat
  | 0, _ => []
  | n + 1, i => (deps ops i).flatMap fun p => p :: anc ops n p
def commI (C : Cfg) (ops : Array Oper) (j i : Nat) : Bool := match ops[j]?, ops[i]? with
  | some x, some y => comm C ops x y
  | _, _ => false
def orderOf (ops : Array Oper) (p : Option (List Nat)) : List Nat := p.getD (List.range ops.size)
/-- Whether a drawn region may be taken in this order. -/
def pairsB (R : Nat → Nat → Bool) : List Nat → Bool
  | [] => true
  | x :: l => l.all (R x) && pairsB R l
theorem pairsB_ok {R : Nat → Nat → Bool} : ∀ {l : List Nat}, pairsB R l = true → l.Pairwise fun x y => R x y = true
  | [], _ => List.Pairwise.nil
  | x :: l, h => by
    simp only [pairsB, Bool.and_eq_true, List.all_eq_true] at h
    exact List.Pairwise.cons h.1 (pairsB_ok h.2)
def drawB (C : Cfg) (ops : Array Oper) (p : Option (List Nat)) : Bool :=
  decide ((orderOf ops p).length = ops.size) && (orderOf ops p).all (fun i => decide (i < ops.size)) && (List.range ops.size).all (fun i => (orderOf ops p).contains i && (deps ops i).all fun q => decide (q < ops.size) && q != i) &&
  pairsB (fun i k => i != k && !(deps ops i).contains k && (commI C ops i k || (anc ops ops.size k).contains i)) (orderOf ops p)
end Go.AI
/- Regions and code. -/
namespace Go.AI
open Go Go.RowKit
structure Known (C : Cfg) (good : TypeId → Bool) : Prop extends Facts C good where
  glob : ∀ g, C.glob g = none
def CallsOk (C : Cfg) (call : Caller) : Prop := ∀ {S : Base} {nt : Nat} {st : St} {a : Act} {w : World} {o : Oper} {d : Did} {f : FuncId}, Rel C S nt st a w → kindOf o.op = .call → callOp C st.look call f (o.dst.getD 0) o.op = some d → (∀ t, o.dst = some t → t < nt) →
  ∀ (next : Act → World → Prop) (Q : Exit → Act → World → Prop), (∀ a' w', Rel C S nt (st.after o.dst d) a' w' → next a' w') → o.wp C.P a w next Q
def dstOk (nt : Nat) (o : Oper) : Bool := match o.dst with
  | some t => decide (t < nt)
  | none => true
def operOk (C : Cfg) (good : TypeId → Bool) (nt : Nat) (o : Oper) : Bool := opOk C good o.op && dstOk nt o
def codeOk (C : Cfg) (good : TypeId → Bool) (f : FuncId) (nt : Nat) : Code → Bool
  | .region id os dr => (!dr || drawB C os (C.order f id)) && os.toList.all (operOk C good nt)
  | .seq x y => codeOk C good f nt x && codeOk C good f nt y
  | .cond _ x y => codeOk C good f nt x && codeOk C good f nt y
  | .block _ c => codeOk C good f nt c
  | .loop c => codeOk C good f nt c
  | _ => true
/-- Drawn regions that are checked are carried out. -/
def DrawsOk (C : Cfg) (good : TypeId → Bool) (call : Caller) : Prop := ∀ {S : Base} {nt : Nat} {f : FuncId} {id : Nat} {os : Array Oper} {st st' : St} {a : Act} {w : World} {Q : Exit → Act → World → Prop}, drawB C os (C.order f id) = true → (∀ o ∈ os.toList, operOk C good nt o = true) → Rel C S nt st a w →
  opsW C call f os.toList (arrange os.toList (C.order f id)) st = some st' → (∀ a' w', Rel C S nt st' a' w' → Q .normal a' w') → (Code.region id os true).wp C.P Q a w
def Ex.to : Ex → Exit
  | .normal => .normal
  | .exit i => .exit i
  | .ret => .ret
section
variable {C : Cfg} {good : TypeId → Bool} {S : Base} {nt : Nat} {st : St} {a : Act} {w : World}
theorem oper_step (hK : Known C good) {call : Caller} (hC : CallsOk C call) {f : FuncId} {o : Oper} {d : Did} (h : Rel C S nt st a w) (hok : operOk C good nt o = true) (hd : opW C st.look call f o = some d)
    (next : Act → World → Prop) (Q : Exit → Act → World → Prop) (hn : ∀ a' w', Rel C S nt (st.after o.dst d) a' w' → next a' w') : o.wp C.P a w next Q := by
  simp only [operOk, Bool.and_eq_true] at hok
  have hdst : ∀ t, o.dst = some t → t < nt := fun t ht => by
    have := hok.2
    rw [dstOk, ht] at this
    simpa using this
  by_cases hk : kindOf o.op = .call
  · refine hC (f := f) h hk ?_ hdst next Q hn
    rw [opW, hk] at hd
    exact hd
  · obtain ⟨κ, I, hf⟩ := h
    obtain ⟨nx, v', w', κ', I', h1, h2, h3, h4⟩ := op_ok (ρ := a.eval) hK.toFacts hf.heap hok.1 (hf.ev hK.glob) hk hd
    have hr := hn _ _ ⟨κ', I', hf.put hdst h3 h4⟩
    unfold Oper.wp
    rw [h1]
    rcases h2 with rfl | ⟨rfl, rfl⟩
    · exact hr
    · exact hr
theorem ops_ok (hK : Known C good) {call : Caller} (hC : CallsOk C call) {f : FuncId} {ops : Array Oper} (hok : ∀ o ∈ ops.toList, operOk C good nt o = true) {Q : Exit → Act → World → Prop} :
    ∀ (l : List Oper) (k : Nat) (st st' : St) (a : Act) (w : World), ops.toList.drop k = l → Rel C S nt st a w → opsW C call f ops.toList l st = some st' → (∀ a' w', Rel C S nt st' a' w' → Q .normal a' w') → wpOps C.P ops Q (List.range' k l.length) a w
  | [], k, st, st', a, w, _, h, hr, hQ => by
    cases hr
    exact hQ a w h
  | o :: l, k, st, st', a, w, hl, h, hr, hQ => by
    have hget : ops.toList[k]? = some o := by
      have := congrArg (·[0]?) hl
      simpa [List.getElem?_drop] using this
    have hget' : ops[k]? = some o := by rw [← Array.getElem?_toList]; exact hget
    have hl' : ops.toList.drop (k + 1) = l := by
      have := congrArg List.tail hl
      simpa [List.tail_drop] using this
    rw [opsW] at hr
    obtain ⟨g, hg, hr1⟩ := Option.bind_eq_some_iff.1 hr
    obtain ⟨d, hd, hr2⟩ := Option.bind_eq_some_iff.1 hr1
    clear hr hr1
    have ho := hok o (List.mem_of_getElem? hget)
    have hw : Region.wanted o (yielded ops a.tmps) = g := by
      obtain ⟨κ, I, hf⟩ := h
      exact hf.guard hg
    show wpOps C.P ops Q (k :: List.range' (k + 1) l.length) a w
    rw [wpOps, hget']
    simp only [hw]
    cases g with
    | true =>
      simp only [if_true] at hd ⊢
      exact .inl (oper_step hK hC h ho hd _ Q fun a' w' h' => ops_ok hK hC hok l (k + 1) _ st' a' w' hl' h' hr2 hQ)
    | false =>
      simp only [Bool.false_eq_true, if_false] at hd ⊢
      cases hd
      refine ops_ok hK hC hok l (k + 1) _ st' _ w hl' ?_ hr2 hQ
      obtain ⟨κ, I, hf⟩ := h
      refine ⟨κ, I, hf.put (fun t ht => ?_) (d := { v := .skip }) (Left.refl hf.heap) rfl⟩
      simp only [operOk, Bool.and_eq_true] at ho
      have := ho.2
      rw [dstOk, ht] at this
      simpa using this
theorem filter_get {α : Type} (p : Nat → Bool) (k : Nat) : ∀ (m : Map α), Map.get k (m.filter fun q => p q.1) = if p k then Map.get k m else none
  | [] => by simp [Map.get]
  | (j, v) :: r => by
    rw [List.filter_cons]
    by_cases hj : p j = true
    · simp only [hj, if_true, Map.get]
      by_cases e : j = k
      · subst e; simp [hj]
      · rw [if_neg e, if_neg e, filter_get p k r]
    · simp only [hj, Bool.false_eq_true, if_false, Map.get]
      rw [filter_get p k r]
      by_cases e : j = k
      · subst e; simp [hj]
      · rw [if_neg e]
/-- What a state keeps of another one. -/
structure Part (L' L : Look) : Prop where
  b : ∀ k cs, L'.b k = some cs → L.b k = some cs
  m : ∀ k B, L'.m k = some B → L.m k = some B
theorem VP.part {κ : Place} {I : Nat → Prop} {L L' : Look} {c : PV} {v : Value} (hv : VP κ I L w c v) (hk : ∀ k ∈ ptrKey c, (L'.b k).isSome) : VP κ I L' w c v := by
  cases c with
  | ptr k off => exact ⟨hk k (by simp [ptrKey]), hv.2⟩
  | cptr cs off => exact hv
  | _ => exact hv.elim
theorem V1.part {κ : Place} {I : Nat → Prop} {L L' : Look} (hL : Part L' L) {c : PV} {v : Value} (hv : V1 C κ I L w c v) (hk : ∀ k ∈ ptrKey c, (L'.b k).isSome) (hm : ∀ k ∈ refKey c ++ eptrKey c, (L'.m k).isSome) : V1 C κ I L' w c v := by
  cases c with
  | ptr k off => exact VP.part (κ := κ) (I := I) (w := w) (c := .ptr k off) (v := v) hv hk
  | cptr cs off => exact hv
  | fn f cap =>
    obtain ⟨vs, h1, h2⟩ := hv
    refine ⟨vs, h1, All2.of h2.length fun i c v hc hv => ?_⟩
    obtain ⟨v', hv', hcv⟩ := h2.get hc
    rw [hv] at hv'
    cases hv'
    refine VP.part hcv fun k hkc => hk k ?_
    simp only [ptrKey, List.mem_flatMap]
    refine ⟨c, List.mem_of_getElem? hc, ?_⟩
    cases c with
    | ptr k' off => exact hkc
    | cptr cs off => cases hkc
    | _ => exact hcv.elim
  | ref k off len ver =>
    obtain ⟨B, A, cap, h1, h2⟩ := hv
    have := hm k (by simp [refKey])
    obtain ⟨B', hB'⟩ := Option.isSome_iff_exists.1 this
    have := hL.m k B' hB'
    rw [h1] at this
    cases this
    exact ⟨B, A, cap, hB', h2⟩
  | eptr k i off ver =>
    obtain ⟨B, p, h1, h2⟩ := hv
    have := hm k (by simp [eptrKey])
    obtain ⟨B', hB'⟩ := Option.isSome_iff_exists.1 this
    have := hL.m k B' hB'
    rw [h1] at this
    cases this
    exact ⟨B, p, hB', h2⟩
  | _ => exact hv
theorem V1.ok {κ : Place} {I : Nat → Prop} {L : Look} {st' : St} (hL : Part st'.look L) {c : PV} {v : Value} (hv : V1 C κ I L w c v) (h : okCell st' c = true) : V1 C κ I st'.look w c v := by
  simp only [okCell, Bool.and_eq_true, List.all_eq_true] at h
  exact V1.part hL hv h.1 h.2
theorem VA.ok {κ : Place} {I : Nat → Prop} {L : Look} {st' : St} (hL : Part st'.look L) {c : PV} {v : Value} (hv : VA C κ I L w c v) (h : ∀ x ∈ cellsOf c, okCell st' x = true) : VA C κ I st'.look w c v := by
  cases c with
  | agg cs =>
    obtain ⟨vs, h1, h2⟩ := hv
    refine ⟨vs, h1, All2.of h2.length fun i c v hc hv => ?_⟩
    obtain ⟨v', hv', hcv⟩ := h2.get hc
    rw [hv] at hv'
    cases hv'
    exact V1.ok hL hcv (h c (List.mem_of_getElem? hc))
  | undef => exact V1.ok (C := C) (κ := κ) (I := I) (w := w) hL (c := .undef) (v := v) hv (h _ (by simp [cellsOf]))
  | skip => exact V1.ok (C := C) (κ := κ) (I := I) (w := w) hL (c := .skip) (v := v) hv (h _ (by simp [cellsOf]))
  | nil => exact V1.ok (C := C) (κ := κ) (I := I) (w := w) hL (c := .nil) (v := v) hv (h _ (by simp [cellsOf]))
  | int k n => exact V1.ok (C := C) (κ := κ) (I := I) (w := w) hL (c := .int k n) (v := v) hv (h _ (by simp [cellsOf]))
  | bool b => exact V1.ok (C := C) (κ := κ) (I := I) (w := w) hL (c := .bool b) (v := v) hv (h _ (by simp [cellsOf]))
  | str s => exact V1.ok (C := C) (κ := κ) (I := I) (w := w) hL (c := .str s) (v := v) hv (h _ (by simp [cellsOf]))
  | arr s x => exact V1.ok (C := C) (κ := κ) (I := I) (w := w) hL (c := .arr s x) (v := v) hv (h _ (by simp [cellsOf]))
  | oarr s x => exact V1.ok (C := C) (κ := κ) (I := I) (w := w) hL (c := .oarr s x) (v := v) hv (h _ (by simp [cellsOf]))
  | ref k o l ver => exact V1.ok (C := C) (κ := κ) (I := I) (w := w) hL (c := .ref k o l ver) (v := v) hv (h _ (by simp [cellsOf]))
  | ptr k o => exact V1.ok (C := C) (κ := κ) (I := I) (w := w) hL (c := .ptr k o) (v := v) hv (h _ (by simp [cellsOf]))
  | eptr k i o ver => exact V1.ok (C := C) (κ := κ) (I := I) (w := w) hL (c := .eptr k i o ver) (v := v) hv (h _ (by simp [cellsOf]))
  | cptr c o => exact V1.ok (C := C) (κ := κ) (I := I) (w := w) hL (c := .cptr c o) (v := v) hv (h _ (by simp [cellsOf]))
  | optr c => exact V1.ok (C := C) (κ := κ) (I := I) (w := w) hL (c := .optr c) (v := v) hv (h _ (by simp [cellsOf]))
  | fn g c => exact V1.ok (C := C) (κ := κ) (I := I) (w := w) hL (c := .fn g c) (v := v) hv (h _ (by simp [cellsOf]))
  | tup x => exact V1.ok (C := C) (κ := κ) (I := I) (w := w) hL (c := .tup x) (v := v) hv (h _ (by simp [cellsOf]))
theorem VR.ok {κ : Place} {I : Nat → Prop} {L : Look} {st' : St} (hL : Part st'.look L) {c : PV} {v : Value} (hv : VR C κ I L w c v) (h : ∀ x ∈ cellsT c, okCell st' x = true) : VR C κ I st'.look w c v := by
  cases c with
  | tup cs =>
    obtain ⟨vs, h1, h2⟩ := hv
    refine ⟨vs, h1, All2.of h2.length fun i c v hc hv => ?_⟩
    obtain ⟨v', hv', hcv⟩ := h2.get hc
    rw [hv] at hv'
    cases hv'
    exact VA.ok hL hcv fun x hx => h x (List.mem_flatMap.2 ⟨c, List.mem_of_getElem? hc, hx⟩)
  | undef => trivial
  | skip => exact hv
  | agg x => exact VA.ok (C := C) (κ := κ) (I := I) (w := w) hL (c := .agg x) (v := v) hv h
  | nil => exact VA.ok (C := C) (κ := κ) (I := I) (w := w) hL (c := .nil) (v := v) hv h
  | int k n => exact VA.ok (C := C) (κ := κ) (I := I) (w := w) hL (c := .int k n) (v := v) hv h
  | bool b => exact VA.ok (C := C) (κ := κ) (I := I) (w := w) hL (c := .bool b) (v := v) hv h
  | str s => exact VA.ok (C := C) (κ := κ) (I := I) (w := w) hL (c := .str s) (v := v) hv h
  | arr s x => exact VA.ok (C := C) (κ := κ) (I := I) (w := w) hL (c := .arr s x) (v := v) hv h
  | oarr s x => exact VA.ok (C := C) (κ := κ) (I := I) (w := w) hL (c := .oarr s x) (v := v) hv h
  | ref k o l ver => exact VA.ok (C := C) (κ := κ) (I := I) (w := w) hL (c := .ref k o l ver) (v := v) hv h
  | ptr k o => exact VA.ok (C := C) (κ := κ) (I := I) (w := w) hL (c := .ptr k o) (v := v) hv h
  | eptr k i o ver => exact VA.ok (C := C) (κ := κ) (I := I) (w := w) hL (c := .eptr k i o ver) (v := v) hv h
  | cptr c o => exact VA.ok (C := C) (κ := κ) (I := I) (w := w) hL (c := .cptr c o) (v := v) hv h
  | optr c => exact VA.ok (C := C) (κ := κ) (I := I) (w := w) hL (c := .optr c) (v := v) hv h
  | fn g c => exact VA.ok (C := C) (κ := κ) (I := I) (w := w) hL (c := .fn g c) (v := v) hv h
theorem mem_of_get {α : Type} {k : Nat} {v : α} : ∀ {m : Map α}, Map.get k m = some v → (k, v) ∈ m
  | (j, u) :: r, h => by
    simp only [Map.get] at h
    split at h
    · rename_i e; subst e; cases h; simp
    · exact List.mem_cons_of_mem _ (mem_of_get h)
theorem sift_b (keep : Nat) (ts : List Nat) (st : St) : ∃ P : Nat → Bool, (∀ k, k < keep → P k = true) ∧ ∀ k, Map.get k (sift keep ts st).b = if P k then Map.get k st.b else none :=
  ⟨fun j => (ptrKeys ((st.t.filter fun p : Nat × PV => ts.contains p.1).flatMap fun p : Nat × PV => cellsOf p.2)).contains j || decide (j < keep), fun k hk => by simp [hk], fun k => filter_get (fun j => (ptrKeys ((st.t.filter fun p : Nat × PV => ts.contains p.1).flatMap fun p : Nat × PV => cellsOf p.2)).contains j || decide (j < keep)) k st.b⟩
theorem sift_m (keep : Nat) (ts : List Nat) (st : St) : ∃ P : Nat → Bool, (∀ k, k < keep → P k = true) ∧ ∀ k, Map.get k (sift keep ts st).m = if P k then Map.get k st.m else none := by
  refine ⟨fun j => (((st.t.filter fun p : Nat × PV => ts.contains p.1).flatMap fun p : Nat × PV => (cellsOf p.2).flatMap fun c => refKey c ++ eptrKey c) ++ ((sift keep ts st).b).flatMap fun p : Nat × List PV => p.2.flatMap fun c => refKey c ++ eptrKey c).contains j || decide (j < keep), fun k hk => by simp [hk], fun k => ?_⟩
  exact filter_get (fun j => (((st.t.filter fun p : Nat × PV => ts.contains p.1).flatMap fun p : Nat × PV => (cellsOf p.2).flatMap fun c => refKey c ++ eptrKey c) ++ ((sift keep ts st).b).flatMap fun p : Nat × List PV => p.2.flatMap fun c => refKey c ++ eptrKey c).contains j || decide (j < keep)) k st.m
theorem Rel.tidy {keep : Nat} (hkb : ∀ k, (S.L.b k).isSome → k < keep) (hkm : ∀ k, (S.L.m k).isSome → k < keep) (ts : List Nat) (h : Rel C S nt st a w) : Rel C S nt (tidy keep ts st) a w := by
  unfold AI.tidy
  split
  · rename_i hc
    obtain ⟨κ, I, hf⟩ := h
    simp only [closed, Bool.and_eq_true, List.all_eq_true] at hc
    obtain ⟨hc1, hc2⟩ := hc
    have hL : Part (sift keep ts st).look st.look := {
      b := fun k cs hk => by
        have hk : Map.get k (sift keep ts st).b = some cs := hk
        obtain ⟨P, _, hP⟩ := sift_b keep ts st
        rw [hP] at hk
        split at hk
        · exact hk
        · cases hk
      m := fun k B hk => by
        have hk : Map.get k (sift keep ts st).m = some B := hk
        obtain ⟨P, _, hP⟩ := sift_m keep ts st
        rw [hP] at hk
        split at hk
        · exact hk
        · cases hk }
    have hLb : ∀ k, k < keep → (sift keep ts st).look.b k = st.look.b k := fun k hk => by
      show Map.get k (sift keep ts st).b = Map.get k st.b
      obtain ⟨P, hP1, hP⟩ := sift_b keep ts st
      rw [hP, if_pos (hP1 k hk)]
    have hLm : ∀ k, k < keep → (sift keep ts st).look.m k = st.look.m k := fun k hk => by
      show Map.get k (sift keep ts st).m = Map.get k st.m
      obtain ⟨P, hP1, hP⟩ := sift_m keep ts st
      rw [hP, if_pos (hP1 k hk)]
    have back : ∀ k, ((sift keep ts st).look.b k).isSome → (st.look.b k).isSome := fun k hk => by
      obtain ⟨c, e⟩ := Option.isSome_iff_exists.1 hk
      rw [hL.b k c e]; rfl
    refine ⟨κ, I, { heap := ?_, tmps := fun t => ?_, size := hf.size, defers := hf.defers, goes := ⟨hf.goes.imm, hf.goes.mem, fun k hk => ?_, fun k B hk => ?_⟩, since := ⟨hf.since.os, hf.since.tape, hf.since.output, hf.since.size, hf.since.keep, hf.since.new, fun k hk => hf.since.box k (back k hk), fun k B a hB => hf.since.blk k B a (hL.m k B hB)⟩ }⟩
    rotate_right 2
    · rw [hLb k (hkb k hk)]; exact hf.goes.box k hk
    · rw [hLm k (hkm k (by rw [hk]; rfl))]; exact hf.goes.blk k B hk
    · exact {
        imm := hf.heap.imm
        box := fun k cs hk => by
          obtain ⟨h2, vs, e, h3, h4⟩ := hf.heap.box k cs (hL.b k cs hk)
          refine ⟨h2, vs, e, h3, All2.of h4.length fun i c v hcc hv => ?_⟩
          obtain ⟨v', hv', hcv⟩ := h4.get hcc
          rw [hv] at hv'
          cases hv'
          exact V1.ok hL hcv (hc2 (k, cs) (mem_of_get hk) c (List.mem_of_getElem? hcc))
        blk := fun k B hk => hf.heap.blk k B (hL.m k B hk)
        bb := fun k k' h1 h2 => hf.heap.bb k k' (back k h1) (back k' h2)
        bm := fun k k' B a h1 h2 => hf.heap.bm k k' B a (back k h1) (hL.m k' B h2)
        mm := fun k k' B B' a a' h1 h2 => hf.heap.mm k k' B B' a a' (hL.m k B h1) (hL.m k' B' h2) }
    · show VR C κ I (sift keep ts st).look w ((Map.get t (sift keep ts st).t).getD .undef) _
      cases ht : Map.get t (sift keep ts st).t with
      | none => trivial
      | some c =>
        have hs : Map.get t st.t = some c := by
          have := ht
          simp only [sift] at this
          rw [filter_get (fun k => _)] at this
          split at this
          · exact this
          · cases this
        have hv := hf.tmps t
        have hv : VR C κ I st.look w ((Map.get t st.t).getD .undef) (a.tmps.getD t Go.undef) := hv
        rw [hs] at hv
        exact VR.ok hL hv fun x hx => hc1 (t, c) (mem_of_get ht) x hx
  · exact h
end
end Go.AI
/- Code. -/
namespace Go.AI
open Go Go.RowKit
section
variable {C : Cfg} {good : TypeId → Bool} {S : Base} {nt : Nat}
theorem least {p : Nat → Prop} : ∀ n, p n → ∃ m, p m ∧ ∀ k, k < m → ¬ p k := by
  intro n
  induction n using Nat.strongRecOn with
  | _ n ih =>
    intro h
    by_cases hk : ∃ k, k < n ∧ p k
    · obtain ⟨k, h1, h2⟩ := hk
      exact ih k h1 h2
    · exact ⟨n, h, fun k h1 h2 => hk ⟨k, h1, h2⟩⟩
open Classical in
theorem loop_ok {body : Code} {step : St → Option (Ex × St)} {Q : Exit → Act → World → Prop} {r : Ex × St} (hr : ∀ a' w', Rel C S nt r.2 a' w' → Q r.1.to a' w')
    (hstep : ∀ st e st' a w (Q' : Exit → Act → World → Prop), Rel C S nt st a w → step st = some (e, st') → (∀ a' w', Rel C S nt st' a' w' → Q' e.to a' w') → body.wp C.P Q' a w) {n : Nat} {st : St} {a : Act} {w : World} (h : Rel C S nt st a w) (hi : iter step n st = some r) : (Code.loop body).wp C.P Q a w := by
  let Inv : Nat → Act → World → Prop := fun m a w => ∃ st, Rel C S nt st a w ∧ iter step m st = some r
  have hmin : ∀ a w, (∃ m, Inv m a w) → ∃ m, Inv m a w ∧ ∀ k, k < m → ¬ Inv k a w := fun a w ⟨m, hm⟩ => least m hm
  let μ : Act → World → Nat := fun a w => if h : ∃ m, Inv m a w then Classical.choose (hmin a w h) else 0
  have hμ : ∀ a w (h : ∃ m, Inv m a w), Inv (μ a w) a w ∧ ∀ k, Inv k a w → μ a w ≤ k := by
    intro a w h
    have e : μ a w = Classical.choose (hmin a w h) := dif_pos h
    rw [e]
    have := Classical.choose_spec (hmin a w h)
    exact ⟨this.1, fun k hk => Nat.le_of_not_lt fun hlt => this.2 k hlt hk⟩
  refine wp_loop (fun a w => ∃ m, Inv m a w) μ ⟨n, st, h, hi⟩ fun a w hI => ?_
  obtain ⟨⟨st, h1, h2⟩, _⟩ := hμ a w hI
  cases hm : μ a w with
  | zero => rw [hm] at h2; cases h2
  | succ m =>
    rw [hm] at h2
    simp only [iter] at h2
    obtain ⟨⟨e, st'⟩, h3, h4⟩ := Option.bind_eq_some_iff.1 h2
    refine hstep st e st' a w _ h1 h3 fun a' w' h' => ?_
    cases e with
    | normal =>
      simp only [Ex.isNormal, if_true] at h4
      refine ⟨⟨m, st', h', h4⟩, ?_⟩
      have := (hμ a' w' ⟨m, st', h', h4⟩).2 m ⟨st', h', h4⟩
      omega
    | exit i =>
      simp only [Ex.isNormal, Bool.false_eq_true, if_false, Option.some.injEq] at h4
      subst h4
      exact hr a' w' h'
    | ret =>
      simp only [Ex.isNormal, Bool.false_eq_true, if_false, Option.some.injEq] at h4
      subst h4
      exact hr a' w' h'
theorem exec_ok (hK : Known C good) {call : Caller} (hC : CallsOk C call) (hD : DrawsOk C good call) {f : FuncId} {n : Nat} (hkb : ∀ k, (S.L.b k).isSome → k < C.keep f) (hkm : ∀ k, (S.L.m k).isSome → k < C.keep f) : ∀ (c : Code) (st st' : St) (e : Ex) (a : Act) (w : World) (Q : Exit → Act → World → Prop), codeOk C good f nt c = true → Rel C S nt st a w → execW C call n f c st = some (e, st') → (∀ a' w', Rel C S nt st' a' w' → Q e.to a' w') → c.wp C.P Q a w := by
  intro c
  induction c with
  | skip =>
    intro st st' e a w Q _ h hr hQ
    cases hr
    exact wp_skip (hQ a w h)
  | region id os dr =>
    intro st st' e a w Q hok h hr hQ
    simp only [codeOk, Bool.and_eq_true, Bool.or_eq_true, Bool.not_eq_true'] at hok
    obtain ⟨hdr, hok⟩ := hok
    cases dr with
    | true =>
      simp only [execW, if_true] at hr
      obtain ⟨s, h1, h2⟩ := Option.bind_eq_some_iff.1 hr
      cases h2
      exact hD (hdr.resolve_left (by simp)) (List.all_eq_true.1 hok) h h1 hQ
    | false =>
    simp only [execW, Bool.false_eq_true, if_false] at hr
    obtain ⟨s, h1, h2⟩ := Option.bind_eq_some_iff.1 hr
    cases h2
    refine wp_region ?_
    have := ops_ok hK hC (ops := os) (List.all_eq_true.1 hok) os.toList 0 st st' a w rfl h h1 hQ
    rw [Array.length_toList] at this
    rw [List.range_eq_range']
    exact this
  | seq x y ihx ihy =>
    intro st st' e a w Q hok h hr hQ
    simp only [codeOk, Bool.and_eq_true] at hok
    simp only [execW] at hr
    obtain ⟨⟨e1, s1⟩, h1, h2⟩ := Option.bind_eq_some_iff.1 hr
    refine wp_seq (ihx st s1 e1 a w _ hok.1 h h1 fun a' w' h' => ?_)
    cases e1 with
    | normal =>
      simp only [Ex.isNormal, if_true] at h2
      exact ihy s1 st' e a' w' Q hok.2 h' h2 hQ
    | exit i =>
      simp only [Ex.isNormal, Bool.false_eq_true, if_false, Option.some.injEq, Prod.mk.injEq] at h2
      obtain ⟨rfl, rfl⟩ := h2
      exact hQ a' w' h'
    | ret =>
      simp only [Ex.isNormal, Bool.false_eq_true, if_false, Option.some.injEq, Prod.mk.injEq] at h2
      obtain ⟨rfl, rfl⟩ := h2
      exact hQ a' w' h'
  | cond c x y ihx ihy =>
    intro st st' e a w Q hok h hr hQ
    simp only [codeOk, Bool.and_eq_true] at hok
    simp only [execW] at hr
    split at hr
    · rename_i t ht
      obtain ⟨κ, I, hf⟩ := h
      have hv := hf.ev hK.glob c
      rw [ht] at hv
      have hv : a.eval c = .bool t := by simpa only [VR, VA, V1, KR] using hv
      refine wp_cond hv ?_
      cases t with
      | true =>
        simp only [if_true] at hr ⊢
        exact ihx st st' e a w Q hok.1 ⟨κ, I, hf⟩ hr hQ
      | false =>
        simp only [Bool.false_eq_true, if_false] at hr ⊢
        exact ihy st st' e a w Q hok.2 ⟨κ, I, hf⟩ hr hQ
    · cases hr
  | block id c ih =>
    intro st st' e a w Q hok h hr hQ
    simp only [codeOk] at hok
    simp only [execW] at hr
    obtain ⟨⟨e1, s1⟩, h1, h2⟩ := Option.bind_eq_some_iff.1 hr
    cases h2
    refine wp_block (ih st s1 e1 a w _ hok h h1 fun a' w' h' => ?_)
    have hq := hQ a' w' h'
    cases e1 with
    | normal => exact hq
    | ret => exact hq
    | exit i =>
      simp only [Ex.leave] at hq
      show if i = id then Q .normal a' w' else Q (.exit i) a' w'
      split
      · rename_i hi
        rw [if_pos hi] at hq
        exact hq
      · rename_i hi
        rw [if_neg hi] at hq
        exact hq
  | loop c ih =>
    intro st st' e a w Q hok h hr hQ
    simp only [codeOk] at hok
    simp only [execW] at hr
    exact loop_ok (r := (e, st')) hQ (fun st e st' a w Q' h1 h2 h3 => ih _ st' e a w Q' hok (h1.tidy hkb hkm _) h2 h3) h hr
  | exit id =>
    intro st st' e a w Q _ h hr hQ
    cases hr
    exact wp_exit (hQ a w h)
  | ret =>
    intro st st' e a w Q _ h hr hQ
    cases hr
    exact wp_ret (hQ a w h)
  | _ =>
    intro st st' e a w Q _ h hr hQ
    cases hr
end
end Go.AI
/- What a callee is given. -/
namespace Go.AI
open Go Go.RowKit
/-- Nothing is known of memory. -/
def bare : Look := ⟨fun _ => .undef, fun _ => none, fun _ => none⟩
section
variable {C : Cfg} {good : TypeId → Bool} {κ κ0 : Place} {I I1 : Nat → Prop} {L L0 : Look} {w : World}
/-- What is lent is written no more. -/
structure Lent (κ : Place) (I1 : Nat → Prop) (L : Look) (cells : List PV) : Prop where
  b : ∀ k ∈ ptrKeys cells, ∀ cs, L.b k = some cs → I1 (κ.box k) ∧ ∀ k' ∈ refKeys cs, ∀ B a, L.m k' = some B → (κ.blk k').1 = some a → I1 a.block
  m : ∀ k ∈ refKeys cells ++ eptrKeys cells, ∀ B a, L.m k = some B → (κ.blk k).1 = some a → I1 a.block
theorem box_cells (h : Heap C κ I L w) (hI : ∀ i, I i → I1 i) {k off : Nat} {cs cs' : List PV} {v : Value} (hk : L.b k = some cs) (hc : keepL C L cs = some cs') (hb : I1 (κ.box k) ∧ ∀ k' ∈ refKeys cs, ∀ B a, L.m k' = some B → (κ.blk k').1 = some a → I1 a.block) (hv : v = .pointer (some ⟨κ.box k, off, none⟩)) (κ0 : Place) (L0 : Look) : VP κ0 I1 L0 w (.cptr cs' off) v := by
  obtain ⟨_, vs, e, h1, h2⟩ := h.box k cs hk
  have h3 := keepL_ok h hI h2 hc hb.2
  refine ⟨⟨κ.box k, 0, none⟩, by rw [hv, Addr.add_lit, Nat.zero_add], KCells_of fun i c hi => ?_⟩
  obtain ⟨u, hu1, hu2⟩ := h3.get hi
  refine ⟨u, ?_, hb.1, hu2⟩
  rw [Nat.zero_add, Addr.add_lit, Nat.zero_add]
  unfold World.cell?
  rw [h1]
  simpa using hu1
theorem lendCap_ok (h : Heap C κ I L w) (hI : ∀ i, I i → I1 i) : ∀ {cap cap' : List PV} {vs : List Value}, All2 (VP κ I L w) cap vs → lendC.lendCap C L cap = some cap' → (∀ k ∈ ptrKeys cap, ∀ cs, L.b k = some cs → I1 (κ.box k) ∧ ∀ k' ∈ refKeys cs, ∀ B a, L.m k' = some B → (κ.blk k').1 = some a → I1 a.block) → All2 (VP κ0 I1 L0 w) cap' vs
  | [], cap', [], _, hc, _ => by cases hc; trivial
  | c :: cap, cap', v :: vs, hv, hc, hb => by
    cases c with
    | ptr k off =>
      simp only [lendC.lendCap] at hc
      obtain ⟨cs, h1, hc1⟩ := Option.bind_eq_some_iff.1 hc
      obtain ⟨cs', h2, hc2⟩ := Option.bind_eq_some_iff.1 hc1
      obtain ⟨r, h3, hc3⟩ := Option.bind_eq_some_iff.1 hc2
      cases hc3
      exact ⟨box_cells h hI h1 h2 (hb k (by simp [ptrKeys, ptrKey]) cs h1) hv.1.2 κ0 L0, lendCap_ok h hI hv.2 h3 fun k' hk' => hb k' (by simp only [ptrKeys, List.flatMap_cons, List.mem_append]; exact .inr hk')⟩
    | cptr cs off =>
      simp only [lendC.lendCap] at hc
      obtain ⟨r, h3, hc3⟩ := Option.bind_eq_some_iff.1 hc
      cases hc3
      obtain ⟨p, h4, h5⟩ := hv.1
      exact ⟨⟨p, h4, KCells_mono hI (fun _ _ => rfl) h5⟩, lendCap_ok h hI hv.2 h3 fun k' hk' => hb k' (by simp only [ptrKeys, List.flatMap_cons, List.mem_append]; exact .inr hk')⟩
    | _ => cases hc
  | [], _, _ :: _, hv, _, _ => hv.elim
  | _ :: _, _, [], hv, _, _ => hv.elim
theorem lendC_ok (h : Heap C κ I L w) (hI : ∀ i, I i → I1 i) {c c' : PV} {v : Value} (hv : V1 C κ I L w c v) (hl : Lent κ I1 L [c]) (hc : lendC C L c = some c') : V1 C κ0 I1 L0 w c' v := by
  have hkeep : keepC C L c = some c' → V1 C κ0 I1 L0 w c' v := fun hk => V1.of_KR C κ0 I1 L0 w (keepC_ok h hI hv hk fun k hk => hl.m k (by simp only [refKeys, List.flatMap_cons, List.flatMap_nil, List.append_nil, List.mem_append]; exact .inl hk))
  cases c with
  | ptr k off =>
    simp only [lendC] at hc
    obtain ⟨cs, h1, hc1⟩ := Option.bind_eq_some_iff.1 hc
    obtain ⟨cs', h2, rfl⟩ := Option.map_eq_some_iff.1 hc1
    exact box_cells h hI h1 h2 (hl.b k (by simp [ptrKeys, ptrKey]) cs h1) hv.2 κ0 L0
  | eptr k i off ver =>
    simp only [lendC] at hc
    obtain ⟨cs, h1, rfl⟩ := Option.map_eq_some_iff.1 hc
    obtain ⟨B, hB, h2⟩ := Option.bind_eq_some_iff.1 h1
    split at h2
    · rename_i hver
      obtain ⟨B', p, e1, hp1, _, hp2⟩ := hv
      rw [hB] at e1
      cases e1
      obtain ⟨hlo, hi, A, hA, rfl⟩ := hp2 hver
      obtain ⟨h3, A', hA', h4⟩ := (h.blk k B hB).cells hlo h2
      rw [hA] at hA'
      cases hA'
      refine ⟨A.add ((i - (κ.blk k).2.2) * (C.ty B.e).sz), hp1, KCells_of fun j c hj => ?_⟩
      obtain ⟨u, hu1, hu2⟩ := h4 j c hj
      refine ⟨u, by rw [Nat.zero_add]; exact hu1, ?_, KR_mono hI (fun _ _ => rfl) hu2⟩
      rw [add_block]
      exact hl.m k (by simp [refKeys, refKey, eptrKeys, eptrKey]) B A hB hA
    · cases h2
  | cptr cs off =>
    cases hc
    obtain ⟨p, h4, h5⟩ := hv
    exact ⟨p, h4, KCells_mono hI (fun _ _ => rfl) h5⟩
  | fn f cap =>
    simp only [lendC] at hc
    obtain ⟨cap', h1, rfl⟩ := Option.map_eq_some_iff.1 hc
    obtain ⟨vs, h2, h3⟩ := hv
    refine ⟨vs, h2, lendCap_ok h hI h3 h1 fun k hk => hl.b k ?_⟩
    simp only [ptrKeys, List.flatMap_cons, List.flatMap_nil, List.append_nil, List.mem_flatMap] at hk ⊢
    obtain ⟨c, hc1, hc2⟩ := hk
    simp only [ptrKey, List.mem_flatMap]
    refine ⟨c, hc1, ?_⟩
    obtain ⟨j, hj⟩ := List.getElem?_of_mem hc1
    obtain ⟨u, _, hu⟩ := h3.get hj
    cases c with
    | ptr _ _ => exact hc2
    | cptr _ _ => cases hc2
    | _ => exact hu.elim
  | _ => exact hkeep hc
theorem Lent.mem {cells : List PV} (hl : Lent κ I1 L cells) {c : PV} (hc : c ∈ cells) : Lent κ I1 L [c] where
  b := fun k hk => hl.b k (by
    simp only [ptrKeys, List.flatMap_cons, List.flatMap_nil, List.append_nil] at hk
    exact List.mem_flatMap.2 ⟨c, hc, hk⟩)
  m := fun k hk => hl.m k (by
    simp only [refKeys, eptrKeys, List.flatMap_cons, List.flatMap_nil, List.append_nil, List.mem_append] at hk ⊢
    rcases hk with hk | hk
    · exact .inl (List.mem_flatMap.2 ⟨c, hc, hk⟩)
    · exact .inr (List.mem_flatMap.2 ⟨c, hc, hk⟩))
theorem lendL_ok (h : Heap C κ I L w) (hI : ∀ i, I i → I1 i) : ∀ {cs cs' : List PV} {vs : List Value}, All2 (V1 C κ I L w) cs vs → (∀ c ∈ cs, Lent κ I1 L [c]) → lendL C L cs = some cs' → All2 (V1 C κ0 I1 L0 w) cs' vs
  | [], _, [], _, _, hc => by cases hc; trivial
  | c :: cs, _, v :: vs, hv, hl, hc => by
    simp only [lendL] at hc
    obtain ⟨c', h1, hc1⟩ := Option.bind_eq_some_iff.1 hc
    obtain ⟨cs', h2, hc2⟩ := Option.bind_eq_some_iff.1 hc1
    cases hc2
    exact ⟨lendC_ok h hI hv.1 (hl c (by simp)) h1, lendL_ok h hI hv.2 (fun x hx => hl x (by simp [hx])) h2⟩
  | [], _, _ :: _, hv, _, _ => hv.elim
  | _ :: _, _, [], hv, _, _ => hv.elim
theorem lend_ok (h : Heap C κ I L w) (hI : ∀ i, I i → I1 i) {c c' : PV} {v : Value} (hv : VR C κ I L w c v) (hl : Lent κ I1 L (cellsOf c)) (hc : lend C L c = some c') : VR C κ0 I1 L0 w c' v := by
  cases c with
  | agg cs =>
    simp only [lend] at hc
    obtain ⟨cs', h1, rfl⟩ := Option.map_eq_some_iff.1 hc
    obtain ⟨vs, h2, h3⟩ := hv
    exact ⟨vs, h2, lendL_ok h hI h3 (fun c hc => hl.mem hc) h1⟩
  | undef => cases hc
  | skip => cases hc
  | tup _ => cases hc
  | nil => exact VR.of_V1 _ _ _ _ _ (lendC_ok (v := v) h hI (c := .nil) hv hl hc)
  | int k n => exact VR.of_V1 _ _ _ _ _ (lendC_ok (v := v) h hI (c := .int k n) hv hl hc)
  | bool b => exact VR.of_V1 _ _ _ _ _ (lendC_ok (v := v) h hI (c := .bool b) hv hl hc)
  | str s => exact VR.of_V1 _ _ _ _ _ (lendC_ok (v := v) h hI (c := .str s) hv hl hc)
  | arr s x => exact VR.of_V1 _ _ _ _ _ (lendC_ok (v := v) h hI (c := .arr s x) hv hl hc)
  | oarr s x => exact VR.of_V1 _ _ _ _ _ (lendC_ok (v := v) h hI (c := .oarr s x) hv hl hc)
  | ref k o l ver => exact VR.of_V1 _ _ _ _ _ (lendC_ok (v := v) h hI (c := .ref k o l ver) hv hl hc)
  | ptr k o => exact VR.of_V1 _ _ _ _ _ (lendC_ok (v := v) h hI (c := .ptr k o) hv hl hc)
  | eptr k i o ver => exact VR.of_V1 _ _ _ _ _ (lendC_ok (v := v) h hI (c := .eptr k i o ver) hv hl hc)
  | cptr x o => exact VR.of_V1 _ _ _ _ _ (lendC_ok (v := v) h hI (c := .cptr x o) hv hl hc)
  | optr x => exact VR.of_V1 _ _ _ _ _ (lendC_ok (v := v) h hI (c := .optr x) hv hl hc)
  | fn g x => exact VR.of_V1 _ _ _ _ _ (lendC_ok (v := v) h hI (c := .fn g x) hv hl hc)
end
end Go.AI
/- What a callee hands back. -/
namespace Go.AI
open Go Go.RowKit
section
variable (C : Cfg) (n1 : Nat) (ρ : Nat → Nat) (κ : Place) (I : Nat → Prop) (L : Look) (w : World)
/-- A slice that nobody else holds. -/
def Owns (e : TypeId) (xs : List (List PV)) (v : Value) : Prop := ∃ p : Option Addr × Nat × Nat, p.2.2 = 0 ∧ v = .slice p.1 xs.length p.2.1 ∧ (∀ a, p.1 = some a → n1 ≤ a.block) ∧ ∀ (κ' : Place) (key : Nat), κ'.blk key = p → BlkR C κ' I w key { froz := false, n := xs.length, e, xs }
/-- A result's cell. -/
def RC : PV → Value → Prop
  | .oarr e xs, v => Owns C n1 I w e xs v
  | .optr cs, v => ∃ g e vs, v = .pointer (some ⟨g, 0, none⟩) ∧ n1 ≤ g ∧ ¬ I g ∧ w.heap[g]? = some (.cells vs e (0, 0)) ∧ All2 (KR I w) cs vs.toList
  | .ref k off len ver, v => V1 C κ I L w (.ref (ρ k) off len ver) v
  | c, v => KR I w c v
def RV : PV → Value → Prop
  | .agg cs, v => ∃ vs, v = .agg vs ∧ All2 (RC C n1 ρ κ I L w) cs vs.toList
  | c, v => RC C n1 ρ κ I L w c v
end
/-- What is handed over. -/
def owned : List PV → List Value → List Nat
  | .optr _ :: cs, .pointer (some a) :: vs => a.block :: owned cs vs
  | .oarr _ _ :: cs, .slice (some a) _ _ :: vs => a.block :: owned cs vs
  | _ :: cs, _ :: vs => owned cs vs
  | _, _ => []
def asOne (vs : List Value) : Value := if h : vs.toArray.size = 1 then vs.toArray[0] else .tuple vs.toArray
/-- Nothing lies there. -/
def Free (κ : Place) (L : Look) (g : Nat) : Prop := (∀ k, (L.b k).isSome → κ.box k ≠ g) ∧ ∀ k B a, L.m k = some B → (κ.blk k).1 = some a → g ≠ a.block
structure Res (C : Cfg) (n1 : Nat) (ρ : Nat → Nat) (κ : Place) (I : Nat → Prop) (L : Look) (w : World) (rs : List PV) (v : Value) : Prop where
  vals : ∃ us, All2 (RV C n1 ρ κ I L w) rs us ∧ (owned (rs.flatMap cellsOf) (us.flatMap (·.cells.toList))).Nodup ∧ (∀ g ∈ owned (rs.flatMap cellsOf) (us.flatMap (·.cells.toList)), Free κ L g) ∧ v = asOne us
section
variable {C : Cfg} {good : TypeId → Bool} {n1 : Nat} {κ κ' : Place} {I I' : Nat → Prop} {L L' : Look} {w : World}
theorem BlkR.key {k k' : Nat} {B : Blk} (h : BlkR C κ I w k B) (e : κ'.blk k' = κ.blk k) : BlkR C κ' I w k' B := ⟨h.len, by rw [e]; exact h.row, by rw [e]; exact h.le, fun a ha => h.own a (by rw [e] at ha; exact ha)⟩
theorem BlkR.more {k : Nat} {B : Blk} (h : BlkR C κ I w k B) (hI : ∀ i, I i → I' i) (hn : ∀ a, (κ.blk k).1 = some a → B.froz = false → ¬ I' a.block) : BlkR C κ I' w k B :=
  h.go rfl hI (fun _ _ => rfl) (fun _ _ => rfl) hn
theorem owned_append : ∀ (cs : List PV) (vs : List Value) (cs' : List PV) (vs' : List Value), cs.length = vs.length → owned (cs ++ cs') (vs ++ vs') = owned cs vs ++ owned cs' vs'
  | [], [], _, _, _ => rfl
  | c :: cs, v :: vs, cs', vs', hl => by
    have ih := owned_append cs vs cs' vs' (by simpa using hl)
    simp only [List.cons_append]
    cases c with
    | optr x =>
      cases v with
      | pointer p =>
        cases p with
        | none => simp only [owned]; exact ih
        | some a => simp only [owned, ih, List.cons_append]
      | _ => simp only [owned]; exact ih
    | oarr x y =>
      cases v with
      | slice p n c =>
        cases p with
        | none => simp only [owned]; exact ih
        | some a => simp only [owned, ih, List.cons_append]
      | _ => simp only [owned]; exact ih
    | _ => simp only [owned]; exact ih
  | [], _ :: _, _, _, hl => by cases hl
  | _ :: _, [], _, _, hl => by cases hl
theorem owned_plain {c : PV} {v : Value} (h1 : ∀ cs, c ≠ .optr cs) (h2 : ∀ e xs, c ≠ .oarr e xs) : owned [c] [v] = [] := by
  cases c with
  | optr cs => exact absurd rfl (h1 cs)
  | oarr e xs => exact absurd rfl (h2 e xs)
  | _ => rfl
/-- The blocks that are handed over. -/
def given (C : Cfg) (L : Look) (io : Map Blk) (cells : List PV) : List Nat := cells.flatMap fun c => match giveC C L io c with
  | some (.oarr _ _) => refKey c
  | _ => []
theorem given_mem {io : Map Blk} {cells : List PV} {k : Nat} (h : k ∈ given C L io cells) : ∃ c ∈ cells, k ∈ refKey c ∧ ∃ e xs, giveC C L io c = some (.oarr e xs) := by
  obtain ⟨c, hc, hk⟩ := List.mem_flatMap.1 h
  split at hk
  · rename_i e xs he; exact ⟨c, hc, hk, e, xs, he⟩
  · cases hk
theorem given_refs {io : Map Blk} {cells : List PV} {k : Nat} (h : k ∈ given C L io cells) : k ∈ refKeys cells := by
  obtain ⟨c, hc, hk, _⟩ := given_mem h
  exact List.mem_flatMap.2 ⟨c, hc, hk⟩
theorem nodup_flat {α β : Type} {f : α → List β} : ∀ {l : List α}, (l.flatMap f).Nodup → ∀ {x y : α} {k : β}, x ∈ l → y ∈ l → k ∈ f x → k ∈ f y → x = y
  | [], _, _, _, _, hx, _, _, _ => by cases hx
  | z :: l, h, x, y, k, hx, hy, kx, ky => by
    rw [List.flatMap_cons, List.nodup_append] at h
    obtain ⟨_, h2, h3⟩ := h
    rcases List.mem_cons.1 hx with e | hx' <;> rcases List.mem_cons.1 hy with e' | hy'
    · rw [e, e']
    · subst e; exact absurd rfl (h3 k kx k (List.mem_flatMap.2 ⟨y, hy', ky⟩))
    · subst e'; exact absurd rfl (h3 k ky k (List.mem_flatMap.2 ⟨x, hx', kx⟩))
    · exact nodup_flat h2 hx' hy' kx ky
/-- All blocks are written no more, but some. -/
def Shut (κ : Place) (I : Nat → Prop) (L : Look) (O : Nat → Prop) (i : Nat) : Prop := I i ∨ ∃ k B a, L.m k = some B ∧ (κ.blk k).1 = some a ∧ a.block = i ∧ ¬ O k
variable {O : Nat → Prop}
theorem shut_lt (h : Heap C κ I L w) : ∀ i, Shut κ I L O i → i < w.heap.size := by
  rintro i (hi | ⟨k, B, a, h1, h2, rfl, _⟩)
  · exact h.imm i hi
  · exact h.blk_lt h1 h2
theorem shut_box (h : Heap C κ I L w) {k : Nat} {cs : List PV} (hk : L.b k = some cs) : ¬ Shut κ I L O (κ.box k) := by
  rintro (hi | ⟨k', B, a, h1, h2, h3, _⟩)
  · exact (h.box k cs hk).1 hi
  · exact h.bm k k' B a (by rw [hk]; rfl) h1 h2 h3.symm
theorem shut_own (h : Heap C κ I L w) {k : Nat} {B : Blk} {a : Addr} (hk : L.m k = some B) (hf : B.froz = false) (ha : (κ.blk k).1 = some a) (ho : O k) : ¬ Shut κ I L O a.block := by
  rintro (hi | ⟨k', B', a', h1, h2, h3, h4⟩)
  · exact ((h.blk k B hk).own a ha).2 hf hi
  · cases hf' : B'.froz with
    | true => exact ((h.blk k B hk).own a ha).2 hf (h3 ▸ ((h.blk k' B' h1).own a' h2).1 hf')
    | false =>
      have := h.mm k k' B B' a a' hk h1 hf hf' ha h2 h3.symm
      subst this
      exact h4 ho
theorem shut_blk (h : Heap C κ I L w) {k : Nat} {B : Blk} (hk : L.m k = some B) (ho : O k) : BlkR C κ (Shut κ I L O) w k B :=
  (h.blk k B hk).more (fun _ h => .inl h) fun _ ha hf => shut_own h hk hf ha ho
/-- Where a handed over place comes from. -/
def From (κ : Place) (L : Look) (io : Map Blk) (c : PV) (g : Nat) : Prop := (∃ k ∈ ptrKey c, g = κ.box k ∧ (L.b k).isSome) ∨ ∃ k ∈ refKey c, ∃ B a, L.m k = some B ∧ B.froz = false ∧ (κ.blk k).1 = some a ∧ g = a.block ∧ ¬ (Map.get k io).isSome
theorem giveC_ok (h : Heap C κ I L w) {io : Map Blk} (hio : ∀ k B, (Map.get k io).isSome → L.m k = some B → L'.m k = some B ∧ κ'.blk k = κ.blk k) {c c' : PV} {v : Value} (hv : V1 C κ I L w c v) (hc : giveC C L io c = some c')
    (hown : ∀ e xs, c' = .oarr e xs → ∀ k ∈ refKey c, O k ∧ ∀ B a, L.m k = some B → B.froz = false → (κ.blk k).1 = some a → n1 ≤ a.block)
    (harr : (∀ e xs, c' ≠ .oarr e xs) → ∀ k ∈ refKey c, (Map.get k io).isSome ∨ ¬ O k)
    (hptr : ∀ k ∈ ptrKey c, n1 ≤ κ.box k ∧ ∀ cs, L.b k = some cs → ∀ k' ∈ refKeys cs, ¬ O k') :
    RC C n1 id κ' (Shut κ I L O) L' w c' v ∧ (∀ g ∈ owned [c'] [v], From κ L io c g) ∧ (owned [c'] [v]).length ≤ 1 := by
  have hkeep : (∀ k ∈ refKey c, ¬ O k) → keepC C L c = some c' → KR (Shut κ I L O) w c' v := fun ho hk => keepC_ok h (fun i hi => .inl hi) hv hk fun k hk B a hB ha => .inr ⟨k, B, a, hB, ha, rfl, ho k hk⟩
  have plain : (∀ k ∈ refKey c, ¬ O k) → keepC C L c = some c' → (∀ cs, c' ≠ .optr cs) → (∀ e xs, c' ≠ .oarr e xs) → (∀ k o l r, c' ≠ .ref k o l r) → RC C n1 id κ' (Shut κ I L O) L' w c' v ∧ (∀ g ∈ owned [c'] [v], From κ L io c g) ∧ (owned [c'] [v]).length ≤ 1 := by
    intro ho hk h1 h2 h3
    have := hkeep ho hk
    rw [owned_plain h1 h2]
    refine ⟨?_, fun g hg => (by cases hg), Nat.zero_le _⟩
    cases c' with
    | optr cs => exact absurd rfl (h1 cs)
    | oarr e xs => exact absurd rfl (h2 e xs)
    | ref k o l r => exact absurd rfl (h3 k o l r)
    | _ => exact this
  cases c with
  | ref k off len ver =>
    simp only [giveC] at hc
    obtain ⟨B, hB, h1⟩ := Option.bind_eq_some_iff.1 hc
    split at h1
    · rename_i hb
      split at h1
      · rename_i hi
        cases h1
        obtain ⟨h2, h3⟩ := hio k B hi hB
        obtain ⟨B', A, cap, g1, g2, g3, g4⟩ := hv
        rw [hB] at g1
        cases g1
        refine ⟨⟨B, A, cap, h2, g2, g3, ?_⟩, fun g hg => (by cases hg), Nat.zero_le _⟩
        show ver = B.n → _
        simp only [id_eq]
        rw [h3]
        exact g4
      · rename_i hni
        have hk : keepC C L (.ref k off len ver) = some (.arr (C.ty B.e).sz ((B.xs.drop off).take len)) := by
          simp only [keepC, hB, Option.bind_some, if_pos hb]
        split at h1
        · rename_i hf
          cases h1
          obtain ⟨hfr, rfl, rfl⟩ := hf
          obtain ⟨ho, hfresh⟩ := hown _ _ rfl k (by simp [refKey])
          obtain ⟨B', A, cap, g1, g2, g3, g4⟩ := hv
          rw [hB] at g1
          cases g1
          obtain ⟨g0, _, g5, g6, g7⟩ := g4 hb.1
          have g0 : (κ.blk k).2.2 = 0 := by omega
          rw [Nat.zero_sub, Nat.sub_zero] at g5
          have g7 := g7 g0.symm
          subst g5 g7 g2
          have hbl := (h.blk k B hB).len
          have hbk : BlkR C κ (Shut κ I L O) w k { froz := false, n := B.xs.length, e := B.e, xs := B.xs } := by
            have := shut_blk h hB ho
            obtain ⟨fz, n, e, xs⟩ := B
            simp only at hfr hbl
            subst hfr hbl
            exact this
          refine ⟨⟨κ.blk k, g0, by rw [hbl], fun a ha => hfresh B a hB hfr ha, fun κ' key he => hbk.key he⟩, ?_, ?_⟩
          · intro g hg
            cases hA : (κ.blk k).1 with
            | none => rw [hA] at hg; cases hg
            | some a =>
              rw [hA] at hg
              simp only [owned, List.mem_singleton] at hg
              exact .inr ⟨k, by simp [refKey], B, a, hB, hfr, hA, hg, hni⟩
          · cases hA : (κ.blk k).1 <;> simp [owned]
        · cases h1
          refine plain (fun k' hk' => ?_) hk (fun _ e => by cases e) (fun _ _ e => by cases e) (fun _ _ _ _ e => by cases e)
          rcases harr (fun _ _ e => by cases e) k' hk' with h2 | h2
          · simp only [refKey, List.mem_singleton] at hk'
            subst hk'
            exact absurd h2 hni
          · exact h2
    · cases h1
  | ptr k off =>
    cases off with
    | zero =>
      simp only [giveC] at hc
      obtain ⟨cs, hB, h1⟩ := Option.bind_eq_some_iff.1 hc
      obtain ⟨cs', h2, rfl⟩ := Option.map_eq_some_iff.1 h1
      obtain ⟨_, vs, e, h4, h5⟩ := h.box k cs hB
      obtain ⟨p1, p2⟩ := hptr k (by simp [ptrKey])
      have h6 : All2 (KR (Shut κ I L O) w) cs' vs.toList := keepL_ok h (fun i hi => .inl hi) h5 h2 fun k' hk' B a hB' ha => .inr ⟨k', B, a, hB', ha, rfl, p2 cs hB k' hk'⟩
      have hv' : v = .pointer (some ⟨κ.box k, 0, none⟩) := hv.2
      refine ⟨⟨κ.box k, e, vs, hv', p1, shut_box h hB, h4, h6⟩, ?_, ?_⟩
      · intro g hg
        rw [hv'] at hg
        simp only [owned, List.mem_singleton] at hg
        exact .inl ⟨k, by simp [ptrKey], hg, by rw [hB]; rfl⟩
      · rw [hv']; simp [owned]
    | succ n => cases hc
  | fn f cap =>
    have hk : keepC C L (.fn f cap) = some c' := hc
    refine plain (fun k hk => by cases hk) hk ?_ ?_ ?_ <;> (cases cap with | nil => cases hk; intros; intro e; cases e | cons _ _ => cases hk)
  | nil => exact plain (fun k hk => by cases hk) hc (by cases hc; intro _ e; cases e) (by cases hc; intro _ _ e; cases e) (by cases hc; intro _ _ _ _ e; cases e)
  | int k n => exact plain (fun k hk => by cases hk) hc (by cases hc; intro _ e; cases e) (by cases hc; intro _ _ e; cases e) (by cases hc; intro _ _ _ _ e; cases e)
  | bool b => exact plain (fun k hk => by cases hk) hc (by cases hc; intro _ e; cases e) (by cases hc; intro _ _ e; cases e) (by cases hc; intro _ _ _ _ e; cases e)
  | str s => exact plain (fun k hk => by cases hk) hc (by cases hc; intro _ e; cases e) (by cases hc; intro _ _ e; cases e) (by cases hc; intro _ _ _ _ e; cases e)
  | arr s x => exact plain (fun k hk => by cases hk) hc (by cases hc; intro _ e; cases e) (by cases hc; intro _ _ e; cases e) (by cases hc; intro _ _ _ _ e; cases e)
  | _ => cases hc
/-- What is asked of a cell that is given. -/
structure CellOk (C : Cfg) (κ : Place) (L : Look) (O : Nat → Prop) (io : Map Blk) (n1 : Nat) (c : PV) : Prop where
  own : ∀ e xs, giveC C L io c = some (.oarr e xs) → ∀ k ∈ refKey c, O k ∧ ∀ B a, L.m k = some B → B.froz = false → (κ.blk k).1 = some a → n1 ≤ a.block
  arr : (∀ e xs, giveC C L io c ≠ some (.oarr e xs)) → ∀ k ∈ refKey c, (Map.get k io).isSome ∨ ¬ O k
  ptr : ∀ k ∈ ptrKey c, n1 ≤ κ.box k ∧ ∀ cs, L.b k = some cs → ∀ k' ∈ refKeys cs, ¬ O k'
theorem giveC_ok' (h : Heap C κ I L w) {io : Map Blk} (hio : ∀ k B, (Map.get k io).isSome → L.m k = some B → L'.m k = some B ∧ κ'.blk k = κ.blk k) {c c' : PV} {v : Value} (hv : V1 C κ I L w c v) (hc : giveC C L io c = some c') (hk : CellOk C κ L O io n1 c) :
    RC C n1 id κ' (Shut κ I L O) L' w c' v ∧ (∀ g ∈ owned [c'] [v], From κ L io c g) ∧ (owned [c'] [v]).length ≤ 1 :=
  giveC_ok h hio hv hc (fun e xs he => hk.own e xs (he ▸ hc)) (fun hne => hk.arr fun e xs he => hne e xs (by rw [hc] at he; exact Option.some.inj he)) hk.ptr
theorem From.apart (h : Heap C κ I L w) {io : Map Blk} {c c2 : PV} {g : Nat} (h1 : From κ L io c g) (h2 : From κ L io c2 g) : (∃ k, k ∈ ptrKey c ∧ k ∈ ptrKey c2) ∨ ∃ k, k ∈ refKey c ∧ k ∈ refKey c2 := by
  rcases h1 with ⟨k, hk, e, hs⟩ | ⟨k, hk, B, a, hB, hf, ha, e, _⟩ <;> rcases h2 with ⟨k2, hk2, e2, hs2⟩ | ⟨k2, hk2, B2, a2, hB2, hf2, ha2, e2, _⟩
  · have := h.bb k k2 hs hs2 (e.symm.trans e2)
    exact .inl ⟨k, hk, this ▸ hk2⟩
  · exact absurd (e.symm.trans e2) (h.bm k k2 B2 a2 hs hB2 ha2)
  · exact absurd (e2.symm.trans e) (h.bm k2 k B a hs2 hB ha)
  · have := h.mm k k2 B B2 a a2 hB hB2 hf hf2 ha ha2 (e.symm.trans e2)
    exact .inr ⟨k, hk, this ▸ hk2⟩
theorem giveL_ok (h : Heap C κ I L w) {io : Map Blk} (hio : ∀ k B, (Map.get k io).isSome → L.m k = some B → L'.m k = some B ∧ κ'.blk k = κ.blk k) : ∀ {cs cs' : List PV} {vs : List Value}, All2 (V1 C κ I L w) cs vs → giveL C L io cs = some cs' → (∀ c ∈ cs, CellOk C κ L O io n1 c) → (ptrKeys cs).Nodup → (refKeys cs).Nodup →
    All2 (RC C n1 id κ' (Shut κ I L O) L' w) cs' vs ∧ (∀ g ∈ owned cs' vs, ∃ c ∈ cs, From κ L io c g) ∧ (owned cs' vs).Nodup
  | [], _, [], _, hc, _, _, _ => by cases hc; exact ⟨trivial, fun g hg => (by cases hg), List.nodup_nil⟩
  | c :: cs, _, v :: vs, hv, hc, hk, hp, hr => by
    simp only [giveL] at hc
    obtain ⟨c', h1, hc1⟩ := Option.bind_eq_some_iff.1 hc
    obtain ⟨cs', h2, hc2⟩ := Option.bind_eq_some_iff.1 hc1
    cases hc2
    simp only [ptrKeys, refKeys, List.flatMap_cons, List.nodup_append] at hp hr
    obtain ⟨h3, h4, h5⟩ := giveC_ok' h hio hv.1 h1 (hk c (by simp))
    obtain ⟨h6, h7, h8⟩ := giveL_ok h hio hv.2 h2 (fun x hx => hk x (by simp [hx])) hp.2.1 hr.2.1
    have ho := owned_append [c'] [v] cs' vs rfl
    simp only [List.singleton_append] at ho
    rw [ho]
    refine ⟨⟨h3, h6⟩, fun g hg => ?_, List.nodup_append.2 ⟨?_, h8, fun g hg g' hg' e => ?_⟩⟩
    · rcases List.mem_append.1 hg with hg | hg
      · exact ⟨c, by simp, h4 g hg⟩
      · obtain ⟨x, hx, hf⟩ := h7 g hg
        exact ⟨x, by simp [hx], hf⟩
    · match hl : owned [c'] [v], h5 with
      | [], _ => exact List.nodup_nil
      | [g], _ => simp
      | _ :: _ :: _, h5 => simp at h5
    · subst e
      obtain ⟨x, hx, hf⟩ := h7 g hg'
      rcases (h4 g hg).apart h hf with ⟨k, k1, k2⟩ | ⟨k, k1, k2⟩
      · exact hp.2.2 k k1 k (List.mem_flatMap.2 ⟨x, hx, k2⟩) rfl
      · exact hr.2.2 k k1 k (List.mem_flatMap.2 ⟨x, hx, k2⟩) rfl
  | [], _, _ :: _, hv, _, _, _, _ => hv.elim
  | _ :: _, _, [], hv, _, _, _, _ => hv.elim
theorem RC.oneCell {ρ : Nat → Nat} {c : PV} {v : Value} (h : RC C n1 ρ κ I L w c v) : v.oneCell' = true := by
  cases c with
  | oarr e xs => obtain ⟨p, _, rfl, _⟩ := h; rfl
  | optr cs => obtain ⟨g, e, vs, rfl, _⟩ := h; rfl
  | ref k o l ver => obtain ⟨B, A, cap, _, rfl, _⟩ := h; rfl
  | _ => exact KR.oneCell C κ ⟨[], [], []⟩ (w := w) (I := I) h
theorem cells_one {v : Value} (h : v.oneCell' = true) : v.cells = #[v] := by
  cases v with
  | agg _ => cases h
  | _ => rfl
theorem RC.not_agg {ρ : Nat → Nat} {cs : List PV} {v : Value} (h : RC C n1 ρ κ I L w (.agg cs) v) : False := by simp only [RC, KR] at h
theorem RV.of_RC {ρ : Nat → Nat} {c : PV} {v : Value} (h : RC C n1 ρ κ I L w c v) : RV C n1 ρ κ I L w c v := by
  cases c with
  | agg cs => exact (RC.not_agg h).elim
  | _ => exact h
theorem RC.cellsOf {ρ : Nat → Nat} {c : PV} {v : Value} (h : RC C n1 ρ κ I L w c v) : cellsOf c = [c] := by
  cases c with
  | agg cs => exact (RC.not_agg h).elim
  | _ => rfl
theorem give_ok (h : Heap C κ I L w) {io : Map Blk} (hio : ∀ k B, (Map.get k io).isSome → L.m k = some B → L'.m k = some B ∧ κ'.blk k = κ.blk k) {c c' : PV} {v : Value} (hv : VR C κ I L w c v) (hc : give C L io c = some c') (hk : ∀ x ∈ cellsOf c, CellOk C κ L O io n1 x) (hp : (ptrKeys (cellsOf c)).Nodup) (hr : (refKeys (cellsOf c)).Nodup) :
    RV C n1 id κ' (Shut κ I L O) L' w c' v ∧ (cellsOf c').length = v.cells.toList.length ∧ (∀ g ∈ owned (cellsOf c') v.cells.toList, ∃ x ∈ cellsOf c, From κ L io x g) ∧ (owned (cellsOf c') v.cells.toList).Nodup := by
  have one : ∀ {c c' : PV}, V1 C κ I L w c v → giveC C L io c = some c' → cellsOf c = [c] → (∀ x ∈ cellsOf c, CellOk C κ L O io n1 x) → RV C n1 id κ' (Shut κ I L O) L' w c' v ∧ (cellsOf c').length = v.cells.toList.length ∧ (∀ g ∈ owned (cellsOf c') v.cells.toList, ∃ x ∈ cellsOf c, From κ L io x g) ∧ (owned (cellsOf c') v.cells.toList).Nodup := by
    intro c c' hv hc hcc hk
    rw [hcc] at hk ⊢
    obtain ⟨h1, h2, h3⟩ := giveC_ok' h hio hv hc (hk c (by simp))
    have hcl := RC.cellsOf h1
    rw [hcl, cells_one (RC.oneCell h1)]
    refine ⟨RV.of_RC h1, rfl, fun g hg => ⟨c, by simp, h2 g hg⟩, ?_⟩
    show (owned [c'] [v]).Nodup
    match hl : owned [c'] [v], h3 with
    | [], _ => exact List.nodup_nil
    | [g], _ => simp
    | _ :: _ :: _, h5 => simp at h5
  cases c with
  | agg cs =>
    simp only [give] at hc
    obtain ⟨cs', h1, rfl⟩ := Option.map_eq_some_iff.1 hc
    obtain ⟨vs, rfl, h3⟩ := hv
    obtain ⟨h4, h5, h6⟩ := giveL_ok h hio h3 h1 hk hp hr
    exact ⟨⟨vs, rfl, h4⟩, h4.length, h5, h6⟩
  | undef => cases hc
  | skip => cases hc
  | tup _ => cases hc
  | nil => exact one (c := .nil) hv hc rfl hk
  | int k n => exact one (c := .int k n) hv hc rfl hk
  | bool b => exact one (c := .bool b) hv hc rfl hk
  | str s => exact one (c := .str s) hv hc rfl hk
  | arr s x => exact one (c := .arr s x) hv hc rfl hk
  | oarr s x => exact one (c := .oarr s x) hv hc rfl hk
  | ref k o l ver => exact one (c := .ref k o l ver) hv hc rfl hk
  | ptr k o => exact one (c := .ptr k o) hv hc rfl hk
  | eptr k i o ver => exact one (c := .eptr k i o ver) hv hc rfl hk
  | cptr x o => exact one (c := .cptr x o) hv hc rfl hk
  | optr x => exact one (c := .optr x) hv hc rfl hk
  | fn g x => exact one (c := .fn g x) hv hc rfl hk
theorem giveAll_ok (h : Heap C κ I L w) {io : Map Blk} (hio : ∀ k B, (Map.get k io).isSome → L.m k = some B → L'.m k = some B ∧ κ'.blk k = κ.blk k) : ∀ {cs cs' : List PV} {vs : List Value}, All2 (VR C κ I L w) cs vs → giveAll C L io cs = some cs' → (∀ x ∈ cs.flatMap cellsOf, CellOk C κ L O io n1 x) → (ptrKeys (cs.flatMap cellsOf)).Nodup → (refKeys (cs.flatMap cellsOf)).Nodup →
    All2 (RV C n1 id κ' (Shut κ I L O) L' w) cs' vs ∧ (∀ g ∈ owned (cs'.flatMap cellsOf) (vs.flatMap (·.cells.toList)), ∃ x ∈ cs.flatMap cellsOf, From κ L io x g) ∧ (owned (cs'.flatMap cellsOf) (vs.flatMap (·.cells.toList))).Nodup
  | [], _, [], _, hc, _, _, _ => by cases hc; exact ⟨trivial, fun g hg => (by cases hg), List.nodup_nil⟩
  | c :: cs, _, v :: vs, hv, hc, hk, hp, hr => by
    simp only [giveAll] at hc
    obtain ⟨c', h1, hc1⟩ := Option.bind_eq_some_iff.1 hc
    obtain ⟨cs', h2, hc2⟩ := Option.bind_eq_some_iff.1 hc1
    cases hc2
    rw [List.flatMap_cons] at hk hp hr
    simp only [ptrKeys, refKeys, List.flatMap_append, List.nodup_append] at hp hr
    obtain ⟨h3, h4, h5, h5'⟩ := give_ok h hio hv.1 h1 (fun x hx => hk x (List.mem_append_left _ hx)) hp.1 hr.1
    obtain ⟨h6, h7, h8⟩ := giveAll_ok h hio hv.2 h2 (fun x hx => hk x (List.mem_append_right _ hx)) hp.2.1 hr.2.1
    rw [List.flatMap_cons, List.flatMap_cons, List.flatMap_cons, owned_append _ _ _ _ h4]
    refine ⟨⟨h3, h6⟩, fun g hg => ?_, List.nodup_append.2 ⟨h5', h8, fun g hg g' hg' e => ?_⟩⟩
    · rcases List.mem_append.1 hg with hg | hg
      · obtain ⟨x, hx, hf⟩ := h5 g hg
        exact ⟨x, List.mem_append_left _ hx, hf⟩
      · obtain ⟨x, hx, hf⟩ := h7 g hg
        exact ⟨x, List.mem_append_right _ hx, hf⟩
    · subst e
      obtain ⟨x, hx, hf⟩ := h5 g hg
      obtain ⟨y, hy, hf'⟩ := h7 g hg'
      rcases hf.apart h hf' with ⟨k, k1, k2⟩ | ⟨k, k1, k2⟩
      · exact hp.2.2 k (List.mem_flatMap.2 ⟨x, hx, k1⟩) k (List.mem_flatMap.2 ⟨y, hy, k2⟩) rfl
      · exact hr.2.2 k (List.mem_flatMap.2 ⟨x, hx, k1⟩) k (List.mem_flatMap.2 ⟨y, hy, k2⟩) rfl
  | [], _, _ :: _, hv, _, _, _, _ => hv.elim
  | _ :: _, _, [], hv, _, _, _, _ => hv.elim
end
end Go.AI
/- A function's run. -/
namespace Go.AI
open Go Go.RowKit
def resOk (good : TypeId → Bool) (rs : List ResultVar) : Bool := rs.all fun | .cell _ t => good t | _ => true
/-- All functions that are known are as they should be. -/
structure Codes (C : Cfg) (good : TypeId → Bool) : Prop extends Known C good where
  code : ∀ f, C.ok f = true → ∃ fn c, C.P.funcs[f]? = some fn ∧ fn.body = some c ∧ (fn.name == "runtime.NumGoroutine") = false ∧ codeOk C good f fn.ntmps c = true ∧ resOk good fn.results.toList = true
/-- The memory that is handed on. -/
def memOf (b : Map (List PV)) (m : Map Blk) : Look := St.look ⟨[], b, m⟩
/-- What a call leaves. -/
def Back (C : Cfg) (S : Base) (r : List PV × Map (List PV) × Map Blk) (e : Ending) (w' : World) : Prop :=
  ∃ v κ' I', e = .returned v ∧ Heap C κ' I' (memOf r.2.1 r.2.2) w' ∧ Goes C S.κ κ' S.I I' S.L (memOf r.2.1 r.2.2) S.w w' ∧ Since S.κ κ' S.I I' S.L (memOf r.2.1 r.2.2) S.w w' ∧ Res C S.w.heap.size id κ' I' (memOf r.2.1 r.2.2) w' r.1 v
def SoundAt (C : Cfg) (f : FuncId) (args : List PV) (b : Map (List PV)) (m : Map Blk) (r : List PV × Map (List PV) × Map Blk) : Prop :=
  (b = [] → m = [] → r.2 = ([], [])) ∧ (∃ fn, C.P.funcs[f]? = some fn ∧ (fn.name == "runtime.NumGoroutine") = false ∧ fn.body.isNone = false) ∧
  ∀ (κ : Place) (I : Nat → Prop) (w : World) (vs : Array Value), Heap C κ I (memOf b m) w → All2 (VR C κ I (memOf b m) w) args vs.toList → Calls C.P f vs w (Back C ⟨κ, I, memOf b m, w⟩ r)
def Sound (C : Cfg) (call : Caller) : Prop := ∀ {f : FuncId} {args : List PV} {b : Map (List PV)} {m : Map Blk} {r : List PV × Map (List PV) × Map Blk}, call f args b m = some r → SoundAt C f args b m r
section
variable {C : Cfg} {good : TypeId → Bool} {S : Base} {nt : Nat} {κ : Place} {I : Nat → Prop} {st : St} {a : Act} {w : World}
theorem loadVar_at {t : TypeId} (hT : TOk C good t) (hm : Mem C κ I st.look w) {p : PV} {pv : Value} {v : PV} (hp : VR C κ I st.look w p pv) (h : loadAt C st.look t p = some v) :
    ∃ v', (do loadVar t (← asAddr pv) : Sem Value).run C.P w = .ok v' w ∧ VR C κ I st.look w v v' := by
  obtain ⟨v', h1, h2⟩ := loadAt_ok hT hm hp h
  have ha : ∃ a, pv = .pointer (some a) := by
    cases p with
    | ptr k off => obtain ⟨a, h3, _⟩ := movePtr_ok (d := 0) hp rfl; exact ⟨a, h3⟩
    | eptr k i off ver => obtain ⟨a, h3, _⟩ := movePtr_ok (d := 0) hp rfl; exact ⟨a, h3⟩
    | cptr cs off => obtain ⟨a, h3, _⟩ := movePtr_ok (d := 0) hp rfl; exact ⟨a, h3⟩
    | _ => cases h
  obtain ⟨a, rfl⟩ := ha
  refine ⟨v', ?_, h2⟩
  simpa only [Instr.loadAt, Instr.sureAddr, asAddr, Sem.run_bind, Sem.run_pure, Result.andThen_ok] using h1
def oneRes (a : Act) : ResultVar → Sem Value
  | .tmp t => pure (a.tmps.getD t Go.undef)
  | .cell p t => do loadVar t (← asAddr (a.tmps.getD p Go.undef))
theorem resultsL_ok (hF : Facts C good) (hf : Fr C S nt κ I st a w) : ∀ (l : List ResultVar) (vs : List PV), resOk good l = true → AI.results C st.look l = some vs → ∃ us : List Value, All2 (VR C κ I st.look w) vs us ∧
    (l.mapM (oneRes a)).run C.P w = .ok us w
  | [], vs, _, h => by
    cases h
    exact ⟨[], trivial, by simp⟩
  | .tmp t :: l, vs, hok, h => by
    simp only [AI.results] at h
    obtain ⟨r, h1, h2⟩ := Option.bind_eq_some_iff.1 h
    cases h2
    simp only [resOk, List.all_cons, Bool.and_eq_true] at hok
    obtain ⟨us, h3, h4⟩ := resultsL_ok hF hf l r hok.2 h1
    refine ⟨a.tmps.getD t Go.undef :: us, ⟨hf.tmps t, h3⟩, ?_⟩
    simp only [List.mapM_cons, oneRes, Sem.run_bind, Sem.run_pure, Result.andThen_ok, h4]
  | .cell p t :: l, vs, hok, h => by
    simp only [AI.results] at h
    obtain ⟨v, h0, h⟩ := Option.bind_eq_some_iff.1 h
    obtain ⟨r, h1, h2⟩ := Option.bind_eq_some_iff.1 h
    cases h2
    simp only [resOk, List.all_cons, Bool.and_eq_true] at hok
    obtain ⟨us, h3, h4⟩ := resultsL_ok hF hf l r hok.2 h1
    obtain ⟨v', h5, h6⟩ := loadVar_at (hF.ty t hok.1) hf.heap.mem (hf.tmps p) h0
    refine ⟨v' :: us, ⟨h6, h3⟩, ?_⟩
    have h5 : (oneRes a (.cell p t)).run C.P w = .ok v' w := h5
    simp only [List.mapM_cons, Sem.run_bind, h5, Sem.run_pure, Result.andThen_ok, h4]
theorem results_ok (hF : Facts C good) (hf : Fr C S nt κ I st a w) {fn : Func} {vs : List PV} (hok : resOk good fn.results.toList = true) (h : AI.results C st.look fn.results.toList = some vs) : ∃ us : List Value, All2 (VR C κ I st.look w) vs us ∧ (Go.results fn a.tmps).run C.P w = .ok (asOne us) w := by
  obtain ⟨us, h1, h2⟩ := resultsL_ok hF hf _ vs hok h
  refine ⟨us, h1, ?_⟩
  have e : Go.results fn a.tmps = (do let vs ← fn.results.mapM (oneRes a); pure (if h : vs.size = 1 then vs[0] else .tuple vs)) := by
    unfold Go.results
    congr 1
  rw [e, Array.mapM_eq_mapM_toList]
  simp [h2, asOne]
theorem get_zip : ∀ (args : List PV) (k t : Nat) (m : Map PV), Map.get t (Map.puts ((args.zipIdx k).map fun p => (p.2, p.1)) m) = if k ≤ t ∧ t < k + args.length then args[t - k]? else Map.get t m
  | [], k, t, m => by simp only [List.zipIdx_nil, List.map_nil, Map.puts, List.length_nil]; rw [if_neg (by omega)]
  | v :: args, k, t, m => by
    simp only [List.zipIdx_cons, List.map_cons, Map.puts]
    rw [get_zip args (k + 1) t, get_put]
    by_cases h1 : k = t
    · subst h1
      rw [if_neg (by omega), if_pos rfl, if_pos ⟨Nat.le_refl _, by simp⟩, Nat.sub_self]
      rfl
    · by_cases h2 : k + 1 ≤ t ∧ t < k + 1 + args.length
      · rw [if_pos h2, if_pos ⟨by omega, by simp only [List.length_cons]; omega⟩, show t - k = t - (k + 1) + 1 by omega, List.getElem?_cons_succ]
      · rw [if_neg h2, if_neg h1, if_neg (by simp only [List.length_cons]; omega)]
theorem start_ok {fn : Func} {args : List PV} {b : Map (List PV)} {m : Map Blk} {vs : Array Value} (hh : Heap C κ I (memOf b m) w) (hv : All2 (VR C κ I (memOf b m) w) args vs.toList) : Rel C ⟨κ, I, memOf b m, w⟩ fn.ntmps (start args b m) { tmps := vs ++ Array.replicate (fn.ntmps - vs.size) Go.undef, defers := [] } w := by
  have hgo : Goes C κ κ I I (memOf b m) (start args b m).look w w := ⟨fun _ h => h, fun _ _ => rfl, fun _ h => ⟨h, rfl⟩, fun _ B h => ⟨B, h, rfl, Nat.le_refl _, fun _ => rfl⟩⟩
  refine ⟨κ, I, { heap := ⟨hh.imm, fun k cs hk => ?_, hh.blk, hh.bb, hh.bm, hh.mm⟩, tmps := fun t => ?_, size := ?_, defers := rfl, goes := hgo, since := ⟨rfl, rfl, rfl, Nat.le_refl _, fun _ _ _ _ => rfl, fun _ h => .inl h, fun _ h => .inl h, fun _ B a h1 h2 h3 => .inl ⟨B, a, h1, h2, h3, rfl⟩⟩ }⟩
  · obtain ⟨h2, us, e, h3, h4⟩ := hh.box k cs hk
    exact ⟨h2, us, e, h3, h4.mono fun x y hxy => V1.go hgo hxy⟩
  · refine VR.go hgo ?_
    have hl := hv.length
    have hl2 : vs.toList.length = vs.size := Array.length_toList
    show VR C κ I (memOf b m) w ((Map.get t (Map.puts (args.zipIdx.map fun p => (p.2, p.1)) [])).getD .undef) _
    rw [get_zip]
    by_cases ht : 0 ≤ t ∧ t < 0 + args.length
    · rw [if_pos ht, Nat.sub_zero]
      have htl : t < args.length := by omega
      obtain ⟨u, h1, h2⟩ := hv.get (List.getElem?_eq_getElem htl)
      rw [List.getElem?_eq_getElem htl, Option.getD_some, Array.getD_eq_getD_getElem?, Array.getElem?_append_left (by omega), ← Array.getElem?_toList, h1]
      exact h2
    · rw [if_neg ht]
      trivial
  · simp only [Array.size_append, Array.size_replicate]
    omega
theorem V1.known {L : Look} {c : PV} {v : Value} (h : V1 C κ I L w c v) : ∀ k ∈ ptrKey c, (L.b k).isSome := by
  cases c with
  | ptr k off => intro j hj; simp only [ptrKey, List.mem_singleton] at hj; subst hj; exact h.1
  | fn f cap =>
    obtain ⟨vs, _, h2⟩ := h
    intro j hj
    simp only [ptrKey, List.mem_flatMap] at hj
    obtain ⟨c, hc, hj⟩ := hj
    obtain ⟨i, hi⟩ := List.getElem?_of_mem hc
    obtain ⟨u, _, hu⟩ := h2.get hi
    cases c with
    | ptr k off => simp only [List.mem_singleton] at hj; subst hj; exact hu.1
    | _ => cases hj
  | _ => intro j hj; cases hj
theorem VR.known {L : Look} {c : PV} {v : Value} (h : VR C κ I L w c v) : ∀ k ∈ ptrKeys (cellsOf c), (L.b k).isSome := by
  have one : ∀ {c : PV}, V1 C κ I L w c v → cellsOf c = [c] → ∀ k ∈ ptrKeys (cellsOf c), (L.b k).isSome := by
    intro c h hc k hk
    rw [hc] at hk
    simp only [ptrKeys, List.flatMap_cons, List.flatMap_nil, List.append_nil] at hk
    exact V1.known h k hk
  cases c with
  | agg cs =>
    obtain ⟨vs, _, h2⟩ := h
    intro k hk
    obtain ⟨c, hc, hk⟩ := List.mem_flatMap.1 hk
    obtain ⟨i, hi⟩ := List.getElem?_of_mem hc
    obtain ⟨u, _, hu⟩ := h2.get hi
    exact V1.known hu k hk
  | undef => intro k hk; cases hk
  | skip => intro k hk; cases hk
  | tup _ => intro k hk; cases hk
  | nil => exact one (c := .nil) h rfl
  | int k n => exact one (c := .int k n) h rfl
  | bool b => exact one (c := .bool b) h rfl
  | str s => exact one (c := .str s) h rfl
  | arr s x => exact one (c := .arr s x) h rfl
  | oarr s x => exact one (c := .oarr s x) h rfl
  | ref k o l ver => exact one (c := .ref k o l ver) h rfl
  | ptr k o => exact one (c := .ptr k o) h rfl
  | eptr k i o ver => exact one (c := .eptr k i o ver) h rfl
  | cptr x o => exact one (c := .cptr x o) h rfl
  | optr x => exact one (c := .optr x) h rfl
  | fn g x => exact one (c := .fn g x) h rfl
theorem get_append {α : Type} (k : Nat) : ∀ (x y : Map α), Map.get k (x ++ y) = if (Map.get k x).isSome then Map.get k x else Map.get k y
  | [], _ => rfl
  | (j, v) :: x, y => by
    simp only [List.cons_append, Map.get]
    split
    · rfl
    · exact get_append k x y
theorem get_self {α : Type} (q : Nat) : ∀ (l : Map α), Map.get q (l.map fun p => (p.1, p.1)) = if (Map.get q l).isSome then some q else none
  | [] => rfl
  | (j, v) :: l => by
    simp only [List.map_cons, Map.get]
    split
    · rename_i e; subst e; rfl
    · exact get_self q l
theorem get_mem {α : Type} {k : Nat} {v : α} : ∀ {m : Map α}, (m.map (·.1)).Nodup → (k, v) ∈ m → Map.get k m = some v
  | (j, u) :: r, hn, h => by
    simp only [List.map_cons, List.nodup_cons] at hn
    simp only [Map.get]
    rcases List.mem_cons.1 h with h | h
    · cases h; rw [if_pos rfl]
    · rw [if_neg (fun e => hn.1 (List.mem_map.2 ⟨(k, v), h, e.symm⟩))]
      exact get_mem hn.2 h
theorem mem_get {α : Type} {k : Nat} {v : α} {m : Map α} (h : (k, v) ∈ m) : (Map.get k m).isSome := by
  induction m with
  | nil => cases h
  | cons p r ih =>
    obtain ⟨j, u⟩ := p
    simp only [Map.get]
    split
    · rfl
    · rcases List.mem_cons.1 h with h | h
      · cases h; rename_i hne; exact absurd rfl hne
      · exact ih h
theorem snd_inj {m : Map Nat} (hn : (m.map (·.2)).Nodup) {q q' k : Nat} (h : (q, k) ∈ m) (h' : (q', k) ∈ m) : q = q' := by
  induction m with
  | nil => cases h
  | cons p r ih =>
    simp only [List.map_cons, List.nodup_cons] at hn
    rcases List.mem_cons.1 h with h1 | h1 <;> rcases List.mem_cons.1 h' with h2 | h2
    · rw [← h2] at h1; cases h1; rfl
    · subst h1; exact absurd (List.mem_map.2 ⟨(q', k), h2, rfl⟩) hn.1
    · subst h2; exact absurd (List.mem_map.2 ⟨(q, k), h1, rfl⟩) hn.1
    · exact ih hn.2 h1 h2
theorem outM_get {L : Look} {q : Nat} : ∀ {l : Map Nat} {om : Map Blk}, outM L l = some om → Map.get q om = (Map.get q l).bind L.m
  | [], _, h => by cases h; rfl
  | (j, k) :: l, om, h => by
    simp only [outM] at h
    obtain ⟨B, h1, h2⟩ := Option.bind_eq_some_iff.1 h
    obtain ⟨y, h3, h4⟩ := Option.bind_eq_some_iff.1 h2
    cases h4
    simp only [Map.get]
    split
    · exact h1.symm
    · exact outM_get h3
theorem outM_some {L : Look} {q k : Nat} : ∀ {l : Map Nat} {om : Map Blk}, outM L l = some om → (q, k) ∈ l → (L.m k).isSome
  | (j, i) :: l, om, h, hm => by
    simp only [outM] at h
    obtain ⟨B, h1, h2⟩ := Option.bind_eq_some_iff.1 h
    obtain ⟨y, h3, h4⟩ := Option.bind_eq_some_iff.1 h2
    rcases List.mem_cons.1 hm with e | hm
    · cases e; rw [h1]; rfl
    · exact outM_some h3 hm
theorem outC_nk {L : Look} {io : Map Blk} {q0 : Nat} {c : PV} {x : PV × Map Nat} (h : outC C L io q0 c = some x) : ∀ q k, (q, k) ∈ x.2 → Map.get k io = none ∧ Map.get q io = none := by
  intro q k hm
  have keep : ∀ {c : PV}, (keepC C L c).map (fun c => (c, ([] : Map Nat))) = some x → False := by
    intro c h
    obtain ⟨c', _, rfl⟩ := Option.map_eq_some_iff.1 h
    cases hm
  cases c with
  | ref k' off len ver =>
    simp only [outC] at h
    obtain ⟨B, hB, h1⟩ := Option.bind_eq_some_iff.1 h
    split at h1
    · cases h1; cases hm
    · rename_i hni
      split at h1
      · rename_i hc
        cases h1
        simp only [List.mem_singleton] at hm
        cases hm
        exact ⟨by simpa using hni, by simpa using hc.2.2.2.2⟩
      · cases h1
  | _ => simp only [outC] at h; exact (keep h).elim
theorem outCells_nk {L : Look} {io : Map Blk} : ∀ {cs : List PV} {q0 : Nat} {x : List PV × Map Nat}, outCells C L io q0 cs = some x → ∀ q k, (q, k) ∈ x.2 → Map.get k io = none ∧ Map.get q io = none
  | [], _, _, h, q, k, hm => by cases h; cases hm
  | c :: cs, q0, x, h, q, k, hm => by
    simp only [outCells] at h
    obtain ⟨y, h1, h2⟩ := Option.bind_eq_some_iff.1 h
    obtain ⟨z, h3, h4⟩ := Option.bind_eq_some_iff.1 h2
    cases h4
    rcases List.mem_append.1 hm with hm | hm
    · exact outC_nk h1 q k hm
    · exact outCells_nk h3 q k hm
theorem outB_nk {L : Look} {io : Map Blk} : ∀ {b : Map (List PV)} {x : Map (List PV) × Map Nat}, outB C L io b = some x → ∀ q k, (q, k) ∈ x.2 → Map.get k io = none ∧ Map.get q io = none
  | [], _, h, q, k, hm => by cases h; cases hm
  | (p, _) :: r, x, h, q, k, hm => by
    simp only [outB] at h
    obtain ⟨cs, h0, h⟩ := Option.bind_eq_some_iff.1 h
    obtain ⟨y, h1, h2⟩ := Option.bind_eq_some_iff.1 h
    obtain ⟨z, h3, h4⟩ := Option.bind_eq_some_iff.1 h2
    cases h4
    rcases List.mem_append.1 hm with hm | hm
    · exact outCells_nk h1 q k hm
    · exact outB_nk h3 q k hm
theorem outB_get {L : Look} {io : Map Blk} {p : Nat} : ∀ {b : Map (List PV)} {x : Map (List PV) × Map Nat}, outB C L io b = some x → ((Map.get p b).isSome ↔ (Map.get p x.1).isSome) ∧ ∀ cs', Map.get p x.1 = some cs' → ∃ cs y, L.b p = some cs ∧ outCells C L io (p + 1) cs = some y ∧ y.1 = cs' ∧ ∀ z ∈ y.2, z ∈ x.2
  | [], _, h => by cases h; exact ⟨Iff.rfl, fun cs' h => by cases h⟩
  | (j, _) :: r, x, h => by
    simp only [outB] at h
    obtain ⟨cs, h0, h⟩ := Option.bind_eq_some_iff.1 h
    obtain ⟨y, h1, h2⟩ := Option.bind_eq_some_iff.1 h
    obtain ⟨z, h3, h4⟩ := Option.bind_eq_some_iff.1 h2
    cases h4
    obtain ⟨i1, i2⟩ := outB_get (p := p) h3
    simp only [Map.get]
    by_cases e : j = p
    · subst e
      rw [if_pos rfl, if_pos rfl]
      exact ⟨by simp, fun cs' hc => by cases hc; exact ⟨cs, y, h0, h1, rfl, fun u hu => List.mem_append_left _ hu⟩⟩
    · rw [if_neg e, if_neg e]
      refine ⟨i1, fun cs' hc => ?_⟩
      obtain ⟨cs2, y2, g1, g2, g3, g4⟩ := i2 cs' hc
      exact ⟨cs2, y2, g1, g2, g3, fun u hu => List.mem_append_right _ (g4 u hu)⟩
theorem outC_ok {L L' : Look} {κ' : Place} {I' : Nat → Prop} (h : Heap C κ I L w) (hI : ∀ i, I i → I' i) {io : Map Blk} (hio : ∀ k B, (Map.get k io).isSome → L.m k = some B → L'.m k = some B ∧ κ'.blk k = κ.blk k) {q0 : Nat} {c : PV} {v : Value} {x : PV × Map Nat} (hx : outC C L io q0 c = some x) (hnk : ∀ q k, (q, k) ∈ x.2 → ∀ B, L.m k = some B → L'.m q = some B ∧ κ'.blk q = κ.blk k) (hv : V1 C κ I L w c v) : V1 C κ' I' L' w x.1 v := by
  have keep : ∀ {c : PV}, V1 C κ I L w c v → refKey c = [] → (keepC C L c).map (fun c => (c, ([] : Map Nat))) = some x → V1 C κ' I' L' w x.1 v := by
    intro c hv hr h1
    obtain ⟨c', h2, rfl⟩ := Option.map_eq_some_iff.1 h1
    exact V1.of_KR _ _ _ _ _ (keepC_ok h hI hv h2 fun k hk => by rw [hr] at hk; cases hk)
  cases c with
  | ref k off len ver =>
    simp only [outC] at hx
    obtain ⟨B, hB, h1⟩ := Option.bind_eq_some_iff.1 hx
    obtain ⟨B', A, cap, g1, g2, g3, g4⟩ := hv
    rw [hB] at g1
    cases g1
    split at h1
    · rename_i hi
      cases h1
      obtain ⟨h2, h3⟩ := hio k B hi hB
      exact ⟨B, A, cap, h2, g2, g3, by rw [h3]; exact g4⟩
    · split at h1
      · rename_i hc
        cases h1
        obtain ⟨_, rfl, rfl, rfl, _⟩ := hc
        obtain ⟨h2, h3⟩ := hnk q0 k (by simp) B hB
        exact ⟨B, A, cap, h2, g2, g3, by rw [h3]; exact g4⟩
      · cases h1
  | undef => simp only [outC] at hx; exact keep hv rfl hx
  | skip => simp only [outC] at hx; exact keep hv rfl hx
  | tup _ => simp only [outC] at hx; exact keep hv rfl hx
  | agg _ => simp only [outC] at hx; exact keep hv rfl hx
  | nil => simp only [outC] at hx; exact keep hv rfl hx
  | int k n => simp only [outC] at hx; exact keep hv rfl hx
  | bool b => simp only [outC] at hx; exact keep hv rfl hx
  | str s => simp only [outC] at hx; exact keep hv rfl hx
  | arr s y => simp only [outC] at hx; exact keep hv rfl hx
  | oarr s y => simp only [outC] at hx; exact keep hv rfl hx
  | ptr k o => simp only [outC] at hx; exact keep hv rfl hx
  | eptr k i o ver => simp only [outC] at hx; exact keep hv rfl hx
  | cptr y o => simp only [outC] at hx; exact keep hv rfl hx
  | optr y => simp only [outC] at hx; exact keep hv rfl hx
  | fn g y => simp only [outC] at hx; exact keep hv rfl hx
theorem outCells_ok {L L' : Look} {κ' : Place} {I' : Nat → Prop} (h : Heap C κ I L w) (hI : ∀ i, I i → I' i) {io : Map Blk} (hio : ∀ k B, (Map.get k io).isSome → L.m k = some B → L'.m k = some B ∧ κ'.blk k = κ.blk k) : ∀ {cs : List PV} {q0 : Nat} {vs : List Value} {x : List PV × Map Nat}, outCells C L io q0 cs = some x → (∀ q k, (q, k) ∈ x.2 → ∀ B, L.m k = some B → L'.m q = some B ∧ κ'.blk q = κ.blk k) → All2 (V1 C κ I L w) cs vs → All2 (V1 C κ' I' L' w) x.1 vs
  | [], _, [], _, hx, _, _ => by cases hx; trivial
  | c :: cs, q0, v :: vs, x, hx, hnk, hv => by
    simp only [outCells] at hx
    obtain ⟨y, h1, h2⟩ := Option.bind_eq_some_iff.1 hx
    obtain ⟨z, h3, h4⟩ := Option.bind_eq_some_iff.1 h2
    cases h4
    exact ⟨outC_ok h hI hio h1 (fun q k hm => hnk q k (List.mem_append_left _ hm)) hv.1, outCells_ok h hI hio h3 (fun q k hm => hnk q k (List.mem_append_right _ hm)) hv.2⟩
  | [], _, _ :: _, _, _, _, hv => hv.elim
  | _ :: _, _, [], _, _, _, hv => hv.elim
theorem known_cells {L : Look} {vs : List PV} {us : List Value} (hv : All2 (VR C κ I L w) vs us) : ∀ x ∈ vs.flatMap cellsOf, ∀ k ∈ ptrKey x, (L.b k).isSome := by
  intro x hx k hk
  obtain ⟨v, hv1, hc⟩ := List.mem_flatMap.1 hx
  obtain ⟨i, hi⟩ := List.getElem?_of_mem hv1
  obtain ⟨u, _, hu⟩ := hv.get hi
  exact VR.known hu k (List.mem_flatMap.2 ⟨x, hc, hk⟩)
/-- The end of a run. -/
theorem finish_ok {b : Map (List PV)} {m : Map Blk} {κ0 : Place} {I0 : Nat → Prop} {w0 : World} (hF : Facts C good) (hf : Fr C ⟨κ0, I0, memOf b m, w0⟩ nt κ I st a w) {fn : Func} (hok : resOk good fn.results.toList = true) {e : Ex} (he : ∀ i, e ≠ .exit i) {r : List PV × Map (List PV) × Map Blk}
    (hr : finish C { t := [], b, m } e st fn.results.toList = some r) : (b = [] → m = [] → r.2 = ([], [])) ∧ ∃ v, (Go.results fn a.tmps).run C.P w = .ok v w ∧ Back C ⟨κ0, I0, memOf b m, w0⟩ r (.returned v) w := by
  have hr' : (AI.results C st.look fn.results.toList).bind (fun vs => (giveAll C st.look m vs).bind fun rs => (outB C st.look m b).bind fun ob => (outM st.look (m.map (fun p => (p.1, p.1)) ++ ob.2)).bind fun om =>
      if endOk { t := [], b, m } st.look vs ob.2 then some (rs, ob.1, om) else none) = some r := by
    cases e with
    | exit i => exact absurd rfl (he i)
    | normal => exact hr
    | ret => exact hr
  clear hr
  obtain ⟨vs, h1, hr⟩ := Option.bind_eq_some_iff.1 hr'
  obtain ⟨rs, h2, hr⟩ := Option.bind_eq_some_iff.1 hr
  obtain ⟨⟨ob, nk⟩, h3, hr⟩ := Option.bind_eq_some_iff.1 hr
  obtain ⟨om, h4, hr⟩ := Option.bind_eq_some_iff.1 hr
  clear hr'
  split at hr
  rotate_left
  · cases hr
  rename_i hend
  cases hr
  refine ⟨fun hb hm => ?_, ?_⟩
  · subst hb hm
    cases h3
    cases h4
    rfl
  have hh := hf.heap
  generalize hL : st.look = L at *
  simp only [endOk, Bool.and_eq_true, decide_eq_true_eq, List.all_eq_true, Option.isNone_iff_eq_none] at hend
  obtain ⟨hN, hNp, hNf, hXio, hPio⟩ := hend
  obtain ⟨hNR, hNX, hNRX⟩ := List.nodup_append.1 hN
  obtain ⟨_, hNs, hNXs⟩ := List.nodup_append.1 hNX
  obtain ⟨us, hv1, hv2⟩ := results_ok hF hf hok (hL ▸ h1)
  rw [hL] at hv1
  -- the blocks' names
  have hnkio := outB_nk h3
  have hfull : ∀ q, Map.get q (m.map (fun p => (p.1, p.1)) ++ nk) = if (Map.get q m).isSome then some q else Map.get q nk := by
    intro q
    rw [get_append, get_self]
    split
    · rfl
    · rfl
  have hfio : ∀ q, (Map.get q m).isSome → Map.get q (m.map (fun p => (p.1, p.1)) ++ nk) = some q := fun q hq => by rw [hfull, if_pos hq]
  have hfnk : ∀ q k, (q, k) ∈ nk → Map.get q (m.map (fun p => (p.1, p.1)) ++ nk) = some k := fun q k hq => by
    rw [hfull, if_neg (by rw [(hnkio q k hq).2]; simp)]
    exact get_mem hNf hq
  have hcase : ∀ q k, Map.get q (m.map (fun p => (p.1, p.1)) ++ nk) = some k → (q = k ∧ (Map.get q m).isSome) ∨ (q, k) ∈ nk := by
    intro q k hq
    rw [hfull] at hq
    split at hq
    · rename_i hs; cases hq; exact .inl ⟨rfl, hs⟩
    · exact .inr (mem_of_get hq)
  have hinj : ∀ q q' k, Map.get q (m.map (fun p => (p.1, p.1)) ++ nk) = some k → Map.get q' (m.map (fun p => (p.1, p.1)) ++ nk) = some k → q = q' := by
    intro q q' k h h'
    rcases hcase q k h with ⟨e1, s1⟩ | s1 <;> rcases hcase q' k h' with ⟨e2, s2⟩ | s2
    · rw [e1, e2]
    · rw [e1, (hnkio _ _ s2).1] at s1; cases s1
    · rw [e2, (hnkio _ _ s1).1] at s2; cases s2
    · exact snd_inj hNs s1 s2
  let κ' : Place := ⟨κ.box, fun q => κ.blk ((Map.get q (m.map (fun p => (p.1, p.1)) ++ nk)).getD 0)⟩
  let O : Nat → Prop := fun k => (Map.get k m).isSome ∨ k ∈ nk.map (·.2) ∨ k ∈ given C L m (vs.flatMap cellsOf)
  let L' := memOf ob om
  have hκ : ∀ q k, Map.get q (m.map (fun p => (p.1, p.1)) ++ nk) = some k → κ'.blk q = κ.blk k := fun q k hq => by
    show κ.blk ((Map.get q _).getD 0) = _
    rw [hq]; rfl
  have hLm : ∀ q, L'.m q = (Map.get q (m.map (fun p => (p.1, p.1)) ++ nk)).bind L.m := fun q => outM_get h4
  have hLm' : ∀ q B, L'.m q = some B → ∃ k, Map.get q (m.map (fun p => (p.1, p.1)) ++ nk) = some k ∧ L.m k = some B ∧ κ'.blk q = κ.blk k ∧ O k := fun q B hB => by
    rw [hLm] at hB
    obtain ⟨k, h5, h6⟩ := Option.bind_eq_some_iff.1 hB
    refine ⟨k, h5, h6, hκ q k h5, ?_⟩
    rcases hcase q k h5 with ⟨e1, s1⟩ | s1
    · exact .inl (e1 ▸ s1)
    · exact .inr (.inl (List.mem_map.2 ⟨_, s1, rfl⟩))
  have hio : ∀ k B, (Map.get k m).isSome → L.m k = some B → L'.m k = some B ∧ κ'.blk k = κ.blk k := fun k B hk hB => by
    refine ⟨?_, hκ k k (hfio k hk)⟩
    rw [hLm, hfio k hk, Option.bind_some, hB]
  have hnew : ∀ q k, (q, k) ∈ nk → ∀ B, L.m k = some B → L'.m q = some B ∧ κ'.blk q = κ.blk k := fun q k hk B hB => by
    refine ⟨?_, hκ q k (hfnk q k hk)⟩
    rw [hLm, hfnk q k hk, Option.bind_some, hB]
  have hbsome : ∀ p, (L'.b p).isSome → (Map.get p b).isSome ∧ (L.b p).isSome := fun p hp => by
    have hp' : (Map.get p ob).isSome := hp
    obtain ⟨i1, i2⟩ := outB_get (p := p) h3
    obtain ⟨cs', hcs⟩ := Option.isSome_iff_exists.1 hp'
    obtain ⟨cs, y, g1, _⟩ := i2 cs' hcs
    exact ⟨i1.2 hp', by rw [g1]; rfl⟩
  have hI : ∀ i, I i → Shut κ I L O i := fun i hi => .inl hi
  have heap' : Heap C κ' (Shut κ I L O) L' w := {
    imm := shut_lt hh
    box := fun p cs' hp => by
      obtain ⟨_, i2⟩ := outB_get (p := p) h3
      obtain ⟨cs, y, g1, g2, g3, g4⟩ := i2 cs' hp
      obtain ⟨_, us, e, h5, h6⟩ := hh.box p cs g1
      refine ⟨shut_box hh g1, us, e, h5, ?_⟩
      rw [← g3]
      exact outCells_ok hh hI hio g2 (fun q k hq => hnew q k (g4 _ hq)) h6
    blk := fun q B hB => by
      obtain ⟨k, _, h6, h7, h8⟩ := hLm' q B hB
      exact (shut_blk hh h6 h8).key h7
    bb := fun p p' hp hp' e => hh.bb p p' (hbsome p hp).2 (hbsome p' hp').2 e
    bm := fun p q B x hp hB hx => by
      obtain ⟨k, _, h6, h7, _⟩ := hLm' q B hB
      rw [h7] at hx
      exact hh.bm p k B x (hbsome p hp).2 h6 hx
    mm := fun q q' B B' x x' hB hB' hfz hfz' hx hx' e => by
      obtain ⟨k, g5, h6, h7, _⟩ := hLm' q B hB
      obtain ⟨k', g5', h6', h7', _⟩ := hLm' q' B' hB'
      rw [h7] at hx
      rw [h7'] at hx'
      have := hh.mm k k' B B' x x' h6 h6' hfz hfz' hx hx' e
      subst this
      exact hinj q q' k g5 g5' }
  have hg := hf.goes
  have hs := hf.since
  rw [hL] at hg hs
  have goes' : Goes C κ0 κ' I0 (Shut κ I L O) (memOf b m) L' w0 w := {
    imm := fun i hi => hI i (hg.imm i hi)
    mem := hg.mem
    box := fun k hk => ⟨(outB_get (p := k) h3).1.1 hk, (hg.box k hk).2⟩
    blk := fun k B hB => by
      obtain ⟨B', g1, g2, g3, g4⟩ := hg.blk k B hB
      have hk : (Map.get k m).isSome := by
        have hB : Map.get k m = some B := hB
        rw [hB]; rfl
      obtain ⟨g5, g6⟩ := hio k B' hk g1
      exact ⟨B', g5, g2, g3, fun e => g6.trans (g4 e)⟩ }
  have since' : Since κ0 κ' I0 (Shut κ I L O) (memOf b m) L' w0 w := {
    os := hs.os
    tape := hs.tape
    output := hs.output
    size := hs.size
    keep := hs.keep
    new := fun i hi => by
      rcases hi with hi | ⟨k, B, x, g1, g2, rfl, _⟩
      · exact hs.new i hi
      · cases hfz : B.froz with
        | true => exact hs.new _ (((hh.blk k B g1).own x g2).1 hfz)
        | false =>
          rcases hs.blk k B x g1 hfz g2 with ⟨B0, a0, e1, e2, e3, e4⟩ | e1
          · exact .inr (.inr ⟨k, B0, a0, e1, e2, e3, e4⟩)
          · exact .inr (.inl e1)
    box := fun k hk => .inl (hbsome k hk).1
    blk := fun q B x hB hfz hx => by
      obtain ⟨k, g5, g6, g7, _⟩ := hLm' q B hB
      rw [g7] at hx
      rcases hs.blk k B x g6 hfz hx with ⟨B0, a0, e1, e2, e3, e4⟩ | e1
      · have e1' : Map.get k m = some B0 := e1
        rcases hcase q k g5 with ⟨e5, _⟩ | e5
        · subst e5; exact .inl ⟨B0, a0, e1, e2, e3, e4⟩
        · rw [(hnkio q k e5).1] at e1'; cases e1'
      · exact .inr e1 }
  have kn := known_cells hv1
  have hcell : ∀ x ∈ vs.flatMap cellsOf, CellOk C κ L O m w0.heap.size x := fun x hx => {
    own := fun e xs hg1 k hk => by
      refine ⟨.inr (.inr (List.mem_flatMap.2 ⟨x, hx, by rw [hg1]; exact hk⟩)), fun B y hB hfz hy => ?_⟩
      rcases hs.blk k B y hB hfz hy with ⟨B0, a0, e1, _⟩ | e1
      · exfalso
        have e1 : Map.get k m = some B0 := e1
        cases x with
        | ref k2 o l ver =>
          simp only [refKey, List.mem_singleton] at hk
          subst hk
          simp only [giveC] at hg1
          obtain ⟨B2, _, hg2⟩ := Option.bind_eq_some_iff.1 hg1
          split at hg2
          · rw [e1, if_pos (show (some B0).isSome = true from rfl)] at hg2
            cases hg2
          · cases hg2
        | _ => cases hk
      · exact e1
    arr := fun hne k hk => by
      by_cases hkio : (Map.get k m).isSome
      · exact .inl hkio
      · refine .inr ?_
        rintro (h5 | h5 | h5)
        · exact hkio h5
        · exact hNRX k (List.mem_flatMap.2 ⟨x, hx, hk⟩) k (List.mem_append_right _ h5) rfl
        · obtain ⟨c, hc, hkc, e, xs, hgc⟩ := given_mem h5
          have := nodup_flat hNR hc hx hkc hk
          subst this
          exact hne e xs hgc
    ptr := fun k hk => by
      have hP : k ∈ ptrKeys (vs.flatMap cellsOf) := List.mem_flatMap.2 ⟨x, hx, hk⟩
      refine ⟨?_, fun cs hcs k' hk' => ?_⟩
      · rcases hs.box k (kn x hx k hk) with e1 | e1
        · have e1 : (Map.get k b).isSome := e1
          rw [hPio k hP] at e1; cases e1
        · exact e1
      · have hX : k' ∈ refsIn L (ptrKeys (vs.flatMap cellsOf)) := List.mem_flatMap.2 ⟨k, hP, by rw [hcs]; exact hk'⟩
        rintro (h5 | h5 | h5)
        · rw [hXio k' hX] at h5; cases h5
        · exact hNXs k' hX k' h5 rfl
        · exact hNRX k' (given_refs h5) k' (List.mem_append_left _ hX) rfl }
  obtain ⟨q1, q2, q3⟩ := giveAll_ok (n1 := w0.heap.size) hh hio hv1 h2 hcell hNp hNR
  refine ⟨asOne us, hv2, asOne us, κ', Shut κ I L O, rfl, heap', goes', since', us, q1, q3, fun g hg => ?_, rfl⟩
  obtain ⟨x, hx, hfrom⟩ := q2 g hg
  refine ⟨fun p hp e => ?_, fun q B y hB hy e => ?_⟩
  · obtain ⟨hp1, hp2⟩ := hbsome p hp
    rcases hfrom with ⟨k, hk, e2, hks⟩ | ⟨k, hk, B, y, hB, _, hy, e2, _⟩
    · have := hh.bb p k hp2 hks (e.trans e2)
      subst this
      rw [hPio p (List.mem_flatMap.2 ⟨x, hx, hk⟩)] at hp1
      cases hp1
    · exact hh.bm p k B y hp2 hB hy (e.trans e2)
  · obtain ⟨k', g5, g6, g7, _⟩ := hLm' q B hB
    rw [g7] at hy
    rcases hfrom with ⟨k, hk, e2, hks⟩ | ⟨k, hk, B2, y2, hB2, hf2, hy2, e2, hnio⟩
    · exact hh.bm k k' B y hks g6 hy (e2.symm.trans e)
    · have hblk : y2.block = y.block := e2.symm.trans e
      cases hfz : B.froz with
      | true => exact ((hh.blk k B2 hB2).own y2 hy2).2 hf2 (hblk ▸ ((hh.blk k' B g6).own y hy).1 hfz)
      | false =>
        have := hh.mm k k' B2 B y2 y hB2 g6 hf2 hfz hy2 hy hblk
        subst this
        rcases hcase q k g5 with ⟨e5, s5⟩ | s5
        · exact hnio (e5 ▸ s5)
        · exact hNRX k (List.mem_flatMap.2 ⟨x, hx, hk⟩) k (List.mem_append_right _ (List.mem_map.2 ⟨_, s5, rfl⟩)) rfl
/-- All calls made are as they should be. -/
theorem run_ok (hR : Codes C good) {n : Nat} (hC : CallsOk C (callN C n)) (hD : DrawsOk C good (callN C n)) (hX : ∀ {f args b m r}, C.ok f = false → C.ext f args b m = some r → SoundAt C f args b m r) : Sound C (callN C (n + 1)) := by
  intro f args b m r hr
  rw [callN] at hr
  split at hr
  · rename_i hok
    split at hr
    · rename_i hkeys
      obtain ⟨fn, c, h1, h2, h3, h4, h5⟩ := hR.code f hok
      rw [h1, Option.bind_some, h2, Option.bind_some] at hr
      obtain ⟨⟨e, st⟩, h6, h7⟩ := Option.bind_eq_some_iff.1 hr
      simp only at h7
      have he : ∀ i, e ≠ .exit i := by
        intro i hi
        subst hi
        cases h7
      simp only [keysOk, Bool.and_eq_true, List.all_eq_true, decide_eq_true_eq] at hkeys
      have hkb : ∀ k, ((memOf b m).b k).isSome → k < C.keep f := fun k hk => by
        obtain ⟨cs, hcs⟩ := Option.isSome_iff_exists.1 hk
        exact hkeys.1 (k, cs) (mem_of_get hcs)
      have hkm : ∀ k, ((memOf b m).m k).isSome → k < C.keep f := fun k hk => by
        obtain ⟨cs, hcs⟩ := Option.isSome_iff_exists.1 hk
        exact hkeys.2 (k, cs) (mem_of_get hcs)
      refine ⟨?_, ⟨fn, h1, h3, by rw [h2]; rfl⟩, fun κ I w us hh hv => ?_⟩
      · intro hb hm
        subst hb hm
        have h7' : (AI.results C st.look fn.results.toList).bind (fun vs => (giveAll C st.look [] vs).bind fun rs => if endOk { t := [], b := [], m := [] } st.look vs [] then some (rs, [], []) else none) = some r := by
          cases e with
          | exit i => exact absurd rfl (he i)
          | normal => exact h7
          | ret => exact h7
        obtain ⟨vs, _, h8⟩ := Option.bind_eq_some_iff.1 h7'
        obtain ⟨rs, _, h9⟩ := Option.bind_eq_some_iff.1 h8
        split at h9
        · cases h9; rfl
        · cases h9
      · refine calls_of_wp h1 h2 ?_
        refine exec_ok (S := ⟨κ, I, memOf b m, w⟩) (nt := fn.ntmps) hR.toKnown hC hD hkb hkm c _ st e _ _ _ h4 (start_ok hh hv) h6 fun a' w' h' => ?_
        obtain ⟨κ', I', hf⟩ := h'
        obtain ⟨_, v, hv1, hv2⟩ := finish_ok hR.toFacts hf h5 he h7
        cases e with
        | exit i => exact absurd rfl (he i)
        | normal => exact ⟨hf.defers, _, hv1, hv2⟩
        | ret => exact ⟨hf.defers, _, hv1, hv2⟩
    · cases hr
  · rename_i hok
    exact hX (by simpa using hok) hr
end
end Go.AI
/- What a caller takes. -/
namespace Go.AI
open Go Go.RowKit
/-- What taking leaves. -/
structure Took (C : Cfg) (κ κ' : Place) (I I' : Nat → Prop) (L L' : Look) (w : World) (gs : List Nat) : Prop where
  heap : Heap C κ' I' L' w
  goes : Goes C κ κ' I I' L L' w w
  new : ∀ i, I' i → I i ∨ i ∈ gs
  box : ∀ j, (L'.b j).isSome → (L.b j).isSome ∨ κ'.box j ∈ gs
  blk : ∀ j B a, L'.m j = some B → (κ'.blk j).1 = some a → (L.m j = some B ∧ (κ.blk j).1 = some a) ∨ a.block ∈ gs
section
variable {C : Cfg} {good : TypeId → Bool} {κ κ1 κ2 : Place} {I I1 I2 : Nat → Prop} {L L1 L2 : Look} {w : World} {n1 : Nat} {ρ : Nat → Nat} {gs gs' : List Nat}
theorem Took.none (h : Heap C κ I L w) : Took C κ κ I I L L w [] := ⟨h, Goes.refl, fun _ h => .inl h, fun _ h => .inl h, fun _ _ _ h h' => .inl ⟨h, h'⟩⟩
theorem Took.seq (h : Took C κ κ1 I I1 L L1 w gs) (k : Took C κ1 κ2 I1 I2 L1 L2 w gs') : Took C κ κ2 I I2 L L2 w (gs ++ gs') where
  heap := k.heap
  goes := h.goes.trans k.goes
  new := fun i hi => by
    rcases k.new i hi with h1 | h1
    · rcases h.new i h1 with h2 | h2
      · exact .inl h2
      · exact .inr (List.mem_append_left _ h2)
    · exact .inr (List.mem_append_right _ h1)
  box := fun j hj => by
    rcases k.box j hj with h1 | h1
    · rcases h.box j h1 with h2 | h2
      · exact .inl h2
      · rw [← (k.goes.box j h1).2] at h2
        exact .inr (List.mem_append_left _ h2)
    · exact .inr (List.mem_append_right _ h1)
  blk := fun j B a hB ha => by
    rcases k.blk j B a hB ha with ⟨h1, h2⟩ | h1
    · rcases h.blk j B a h1 h2 with h3 | h3
      · exact .inl h3
      · exact .inr (List.mem_append_left _ h3)
    · exact .inr (List.mem_append_right _ h1)
theorem Took.free (h : Took C κ κ1 I I1 L L1 w gs) {g : Nat} (hg : Free κ L g) (hn : g ∉ gs) : Free κ1 L1 g := by
  refine ⟨fun k hk e => ?_, fun k B a hB ha e => ?_⟩
  · rcases h.box k hk with h1 | h1
    · exact hg.1 k h1 ((h.goes.box k h1).2.symm.trans e)
    · exact hn (e ▸ h1)
  · rcases h.blk k B a hB ha with ⟨h1, h2⟩ | h1
    · exact hg.2 k B a h1 h2 e
    · exact hn (e ▸ h1)
/-- A box taken over. -/
theorem adopt_box (h : Heap C κ I L w) {key g : Nat} {zs : List PV} {cs : Array Value} {t : TypeId} {L' : Look} (hk : L.b key = none) (hgI : ¬ I g) (hgh : w.heap[g]? = some (.cells cs t (0, 0))) (hz : All2 (KR I w) zs cs.toList)
    (hfr : Free κ L g) (hb : ∀ k, L'.b k = if key = k then some zs else L.b k) (hm : ∀ k, L'.m k = L.m k) : Took C κ (κ.setBox key g) I I L L' w [g] := by
  have hκ : ∀ k, key ≠ k → (κ.setBox key g).box k = κ.box k := fun k e => if_neg e
  have hκk : (κ.setBox key g).box key = g := if_pos rfl
  have hne : ∀ k, (L.b k).isSome → key ≠ k := fun k hs e => by rw [← e, hk] at hs; cases hs
  have hg : Goes C κ (κ.setBox key g) I I L L' w w := {
    imm := fun _ h => h
    mem := fun _ _ => rfl
    box := fun k hs => ⟨by rw [hb, if_neg (hne k hs)]; exact hs, hκ k (hne k hs)⟩
    blk := fun k B hB => ⟨B, by rw [hm]; exact hB, rfl, Nat.le_refl _, fun _ => rfl⟩ }
  refine ⟨{ imm := h.imm, box := fun k zs' hzs => ?_, blk := fun k B hB => ?_, bb := fun k k' s1 s2 he => ?_, bm := fun k k' B a s1 s2 s3 => ?_, mm := fun k k' B B' a a' s1 s2 => ?_ }, hg, fun i hi => .inl hi, fun k hs => ?_, fun k B a hB ha => .inl ⟨by rw [← hm]; exact hB, ha⟩⟩
  · rw [hb] at hzs
    split at hzs
    · rename_i e
      subst e
      cases hzs
      rw [hκk]
      exact ⟨hgI, cs, t, hgh, hz.mono fun a b hab => V1.of_KR _ _ _ _ _ hab⟩
    · rename_i e
      rw [hκ k e]
      obtain ⟨c2, vs, e', c3, c4⟩ := h.box k zs' hzs
      exact ⟨c2, vs, e', c3, c4.mono fun a b hab => V1.go hg hab⟩
  · rw [hm] at hB
    exact (h.blk k B hB).go rfl (fun _ h => h) (fun _ _ => rfl) (fun _ _ => rfl) fun a ha hf => ((h.blk k B hB).own a ha).2 hf
  · rw [hb] at s1 s2
    by_cases e : key = k
    · by_cases e' : key = k'
      · exact e.symm.trans e'
      · rw [if_neg e'] at s2
        subst e
        rw [hκk, hκ _ e'] at he
        exact absurd he.symm (hfr.1 k' s2)
    · rw [if_neg e] at s1
      rw [hκ _ e] at he
      by_cases e' : key = k'
      · subst e'
        rw [hκk] at he
        exact absurd he (hfr.1 k s1)
      · rw [if_neg e'] at s2
        rw [hκ _ e'] at he
        exact h.bb k k' s1 s2 he
  · rw [hb] at s1
    rw [hm] at s2
    by_cases e : key = k
    · subst e
      rw [hκk]
      exact hfr.2 k' B a s2 s3
    · rw [if_neg e] at s1
      rw [hκ _ e]
      exact h.bm k k' B a s1 s2 s3
  · rw [hm] at s1 s2
    exact h.mm k k' B B' a a' s1 s2
  · rw [hb] at hs
    by_cases e : key = k
    · subst e; exact .inr (by rw [hκk]; simp)
    · rw [if_neg e] at hs; exact .inl hs
/-- A block taken over. -/
theorem adopt_blk (h : Heap C κ I L w) {key : Nat} {p : Option Addr × Nat × Nat} {B0 : Blk} {L' : Look} (hk : L.m key = none) (hR : ∀ (κ' : Place) (key : Nat), κ'.blk key = p → BlkR C κ' I w key B0) (hfr : ∀ a, p.1 = some a → Free κ L a.block) (hgs : ∀ a, p.1 = some a → a.block ∈ gs)
    (hb : ∀ k, L'.b k = L.b k) (hm : ∀ k, L'.m k = if key = k then some B0 else L.m k) : Took C κ (κ.setBlk key p) I I L L' w gs := by
  have hκ : ∀ k, key ≠ k → (κ.setBlk key p).blk k = κ.blk k := fun k e => if_neg e
  have hκk : (κ.setBlk key p).blk key = p := if_pos rfl
  have hg : Goes C κ (κ.setBlk key p) I I L L' w w := {
    imm := fun _ h => h
    mem := fun _ _ => rfl
    box := fun k hs => ⟨by rw [hb]; exact hs, rfl⟩
    blk := fun k B hB => by
      have hne : key ≠ k := fun e => by rw [← e, hk] at hB; cases hB
      exact ⟨B, by rw [hm, if_neg hne]; exact hB, rfl, Nat.le_refl _, fun _ => hκ k hne⟩ }
  refine ⟨{ imm := h.imm, box := fun k zs hzs => ?_, blk := fun k B hB => ?_, bb := fun k k' s1 s2 he => ?_, bm := fun k k' B a s1 s2 s3 => ?_, mm := fun k k' B B' a a' s1 s2 f1 f2 p1 p2 he => ?_ }, hg, fun i hi => .inl hi, fun k hs => .inl (by rw [← hb]; exact hs), fun k B a hB ha => ?_⟩
  · rw [hb] at hzs
    obtain ⟨c2, vs, e', c3, c4⟩ := h.box k zs hzs
    exact ⟨c2, vs, e', c3, c4.mono fun a b hab => V1.go hg hab⟩
  · rw [hm] at hB
    split at hB
    · rename_i e
      cases hB
      subst e
      exact hR _ _ hκk
    · rename_i e
      exact (h.blk k B hB).key (hκ k e)
  · rw [hb] at s1 s2
    exact h.bb k k' s1 s2 he
  · rw [hb] at s1
    rw [hm] at s2
    by_cases e : key = k'
    · subst e
      rw [hκk] at s3
      exact (hfr a s3).1 k s1
    · rw [if_neg e] at s2
      rw [hκ _ e] at s3
      exact h.bm k k' B a s1 s2 s3
  · rw [hm] at s1 s2
    by_cases e : key = k
    · by_cases e' : key = k'
      · exact e.symm.trans e'
      · rw [if_neg e'] at s2
        subst e
        rw [hκk] at p1
        rw [hκ _ e'] at p2
        exact absurd he ((hfr a p1).2 k' B' a' s2 p2)
    · rw [if_neg e] at s1
      rw [hκ _ e] at p1
      by_cases e' : key = k'
      · subst e'
        rw [hκk] at p2
        exact absurd he.symm ((hfr a' p2).2 k B a s1 p1)
      · rw [if_neg e'] at s2
        rw [hκ _ e'] at p2
        exact h.mm k k' B B' a a' s1 s2 f1 f2 p1 p2 he
  · rw [hm] at hB
    by_cases e : key = k
    · subst e
      rw [hκk] at ha
      exact .inr (hgs a ha)
    · rw [if_neg e] at hB
      rw [hκ _ e] at ha
      exact .inl ⟨hB, ha⟩
/-- A block that nobody holds is written no more. -/
theorem keep_blk (h : Heap C κ I L w) {p : Option Addr × Nat × Nat} {e : TypeId} {xs : List (List PV)} (hp0 : p.2.2 = 0) (hR : ∀ (κ' : Place) (key : Nat), κ'.blk key = p → BlkR C κ' I w key { froz := false, n := xs.length, e, xs }) (hfr : ∀ a, p.1 = some a → Free κ L a.block) (hgs : ∀ a, p.1 = some a → a.block ∈ gs) :
    ∃ I', Took C κ κ I I' L L w gs ∧ KR I' w (.arr (C.ty e).sz xs) (.slice p.1 xs.length p.2.1) := by
  have hB := hR ⟨fun _ => 0, fun _ => p⟩ 0 rfl
  have hlt : ∀ a, p.1 = some a → a.block < w.heap.size := fun a ha => by
    rcases hB.place with ⟨h1, _⟩ | ⟨g, cur, h1, h2, _⟩
    · rw [ha] at h1; cases h1
    · have h1 : p.1 = some ⟨g, 0, none⟩ := h1
      rw [ha] at h1; cases h1
      exact (Array.getElem?_eq_some_iff.1 h2).1
  have hg : Goes C κ κ I (fun i => I i ∨ ∃ a, p.1 = some a ∧ a.block = i) L L w w := ⟨fun _ h => .inl h, fun _ _ => rfl, fun _ h => ⟨h, rfl⟩, fun _ B h => ⟨B, h, rfl, Nat.le_refl _, fun _ => rfl⟩⟩
  refine ⟨fun i => I i ∨ ∃ a, p.1 = some a ∧ a.block = i, ⟨{ imm := ?_, box := fun k zs hz => ?_, blk := fun k B hB => ?_, bb := h.bb, bm := h.bm, mm := h.mm }, hg, fun i hi => ?_, fun _ h => .inl h, fun _ _ _ h h' => .inl ⟨h, h'⟩⟩, ?_⟩
  · rintro i (hi | ⟨a, ha, rfl⟩)
    · exact h.imm i hi
    · exact hlt a ha
  · obtain ⟨c2, vs, e', c3, c4⟩ := h.box k zs hz
    refine ⟨?_, vs, e', c3, c4.mono fun a b hab => V1.go hg hab⟩
    rintro (hi | ⟨a, ha, he⟩)
    · exact c2 hi
    · exact (hfr a ha).1 k (by rw [hz]; rfl) he.symm
  · refine (h.blk k B hB).more (fun _ h => .inl h) fun a ha hf => ?_
    rintro (hi | ⟨a', ha', he⟩)
    · exact ((h.blk k B hB).own a ha).2 hf hi
    · exact (hfr a' ha').2 k B a hB ha he
  · rcases hi with hi | ⟨a, ha, rfl⟩
    · exact .inl hi
    · exact .inr (hgs a ha)
  · simp only [KR]
    refine ⟨p.1, p.2.1, rfl, ?_, KRows_of fun i el hi => ?_⟩
    · rcases hB.place with ⟨_, h1, h2⟩ | ⟨g, cur, _, _, h1, _⟩
      · have h1 : p.2.1 = 0 := h1
        have h2 : xs.length = p.2.2 := h2
        omega
      · have h1 : xs.length ≤ p.2.1 + p.2.2 := h1
        omega
    · obtain ⟨h1, a, ha, h2⟩ := hB.cells (by show p.2.2 ≤ i; omega) hi
      have e0 : (Place.blk ⟨fun _ => 0, fun _ => p⟩ 0).2.2 = 0 := hp0
      rw [e0] at h2
      refine ⟨h1, a, ha, KCells_of fun j c hj => ?_⟩
      obtain ⟨u, hu1, hu2⟩ := h2 j c hj
      refine ⟨u, by rw [Nat.zero_add, Nat.zero_add]; exact hu1, ?_, KR_mono (fun _ h => .inl h) (fun _ _ => rfl) hu2⟩
      rw [add_block]
      exact .inr ⟨a, ha, rfl⟩
def addBM (st : St) (wb : Map (List PV)) (wm : Map Blk) : St := ⟨st.t, Map.puts wb st.b, Map.puts wm st.m⟩
theorem puts_append {α : Type} : ∀ (a b m : Map α), Map.puts (a ++ b) m = Map.puts b (Map.puts a m)
  | [], _, _ => rfl
  | (_, _) :: r, b, m => by simp only [List.cons_append, Map.puts]; exact puts_append r b _
theorem addBM_append (st : St) (a b : Map (List PV)) (x y : Map Blk) : addBM st (a ++ b) (x ++ y) = addBM (addBM st a x) b y := by
  unfold addBM
  rw [puts_append, puts_append]
/-- What is to be taken stands as it stood, whatever else was taken. -/
theorem RC.took (t : Took C κ κ1 I I1 L L1 w gs) {c : PV} {u : Value} (hc : RC C n1 ρ κ I L w c u) (hn : ∀ g ∈ owned [c] [u], g ∉ gs) : RC C n1 ρ κ1 I1 L1 w c u := by
  have hI := t.goes.imm
  cases c with
  | oarr e xs =>
    obtain ⟨p, hp0, rfl, h1, h2⟩ := hc
    refine ⟨p, hp0, rfl, h1, fun κ' key he => (h2 κ' key he).more hI fun a ha hf hi => ?_⟩
    rw [he] at ha
    rcases t.new _ hi with h3 | h3
    · exact (((h2 κ' key he).own a (by rw [he]; exact ha)).2 rfl) h3
    · exact hn a.block (by rw [ha]; simp [owned]) h3
  | optr cs =>
    obtain ⟨g, e, vs, rfl, h1, h2, h3, h4⟩ := hc
    refine ⟨g, e, vs, rfl, h1, fun hi => ?_, h3, h4.mono fun a b hab => KR_mono hI (fun _ _ => rfl) hab⟩
    rcases t.new _ hi with h5 | h5
    · exact h2 h5
    · exact hn g (by simp [owned]) h5
  | ref k o l ver => exact V1.go (c := .ref (ρ k) o l ver) t.goes hc
  | nil => exact KR_mono (c := .nil) (w := w) (w' := w) hI (fun _ _ => rfl) hc
  | int k n => exact KR_mono (c := .int k n) (w := w) (w' := w) hI (fun _ _ => rfl) hc
  | bool b => exact KR_mono (c := .bool b) (w := w) (w' := w) hI (fun _ _ => rfl) hc
  | str s => exact KR_mono (c := .str s) (w := w) (w' := w) hI (fun _ _ => rfl) hc
  | arr s x => exact KR_mono (c := .arr s x) (w := w) (w' := w) hI (fun _ _ => rfl) hc
  | fn f x => exact KR_mono (c := .fn f x) (w := w) (w' := w) hI (fun _ _ => rfl) hc
  | _ => exact (by simp only [RC, KR] at hc)
theorem RC.tookL (t : Took C κ κ1 I I1 L L1 w gs) : ∀ {cs : List PV} {us : List Value}, All2 (RC C n1 ρ κ I L w) cs us → (∀ g ∈ owned cs us, g ∉ gs) → All2 (RC C n1 ρ κ1 I1 L1 w) cs us
  | [], [], _, _ => trivial
  | c :: cs, u :: us, h, hn => by
    have ho := owned_append [c] [u] cs us rfl
    simp only [List.singleton_append] at ho
    rw [ho] at hn
    exact ⟨RC.took t h.1 fun g hg => hn g (List.mem_append_left _ hg), RC.tookL t h.2 fun g hg => hn g (List.mem_append_right _ hg)⟩
  | [], _ :: _, h, _ => h.elim
  | _ :: _, [], h, _ => h.elim
theorem RV.took (t : Took C κ κ1 I I1 L L1 w gs) {c : PV} {u : Value} (hc : RV C n1 ρ κ I L w c u) (hn : ∀ g ∈ owned (cellsOf c) u.cells.toList, g ∉ gs) : RV C n1 ρ κ1 I1 L1 w c u := by
  have one : ∀ {c : PV}, RC C n1 ρ κ I L w c u → (∀ g ∈ owned (cellsOf c) u.cells.toList, g ∉ gs) → RV C n1 ρ κ1 I1 L1 w c u := by
    intro c hc hn
    rw [RC.cellsOf hc, cells_one (RC.oneCell hc)] at hn
    exact RV.of_RC (RC.took t hc hn)
  cases c with
  | agg cs =>
    obtain ⟨us, rfl, h1⟩ := hc
    exact ⟨us, rfl, RC.tookL t h1 hn⟩
  | undef => exact one (c := .undef) hc hn
  | skip => exact one (c := .skip) hc hn
  | tup x => exact one (c := .tup x) hc hn
  | nil => exact one (c := .nil) hc hn
  | int k n => exact one (c := .int k n) hc hn
  | bool b => exact one (c := .bool b) hc hn
  | str s => exact one (c := .str s) hc hn
  | arr s x => exact one (c := .arr s x) hc hn
  | oarr s x => exact one (c := .oarr s x) hc hn
  | ref k o l ver => exact one (c := .ref k o l ver) hc hn
  | ptr k o => exact one (c := .ptr k o) hc hn
  | eptr k i o ver => exact one (c := .eptr k i o ver) hc hn
  | cptr x o => exact one (c := .cptr x o) hc hn
  | optr x => exact one (c := .optr x) hc hn
  | fn g x => exact one (c := .fn g x) hc hn
theorem RV.length {c : PV} {u : Value} (h : RV C n1 ρ κ I L w c u) : (cellsOf c).length = u.cells.toList.length := by
  have one : ∀ {c : PV}, RC C n1 ρ κ I L w c u → (cellsOf c).length = u.cells.toList.length := by
    intro c hc
    rw [RC.cellsOf hc, cells_one (RC.oneCell hc)]
    rfl
  cases c with
  | agg cs => obtain ⟨us, rfl, h1⟩ := h; exact h1.length
  | undef => exact one (c := .undef) h
  | skip => exact one (c := .skip) h
  | tup x => exact one (c := .tup x) h
  | nil => exact one (c := .nil) h
  | int k n => exact one (c := .int k n) h
  | bool b => exact one (c := .bool b) h
  | str s => exact one (c := .str s) h
  | arr s x => exact one (c := .arr s x) h
  | oarr s x => exact one (c := .oarr s x) h
  | ref k o l ver => exact one (c := .ref k o l ver) h
  | ptr k o => exact one (c := .ptr k o) h
  | eptr k i o ver => exact one (c := .eptr k i o ver) h
  | cptr x o => exact one (c := .cptr x o) h
  | optr x => exact one (c := .optr x) h
  | fn g x => exact one (c := .fn g x) h
theorem RV.tookL (t : Took C κ κ1 I I1 L L1 w gs) : ∀ {cs : List PV} {us : List Value}, All2 (RV C n1 ρ κ I L w) cs us → (∀ g ∈ owned (cs.flatMap cellsOf) (us.flatMap (·.cells.toList)), g ∉ gs) → All2 (RV C n1 ρ κ1 I1 L1 w) cs us
  | [], [], _, _ => trivial
  | c :: cs, u :: us, h, hn => by
    rw [List.flatMap_cons, List.flatMap_cons, owned_append _ _ _ _ (RV.length h.1)] at hn
    exact ⟨RV.took t h.1 fun g hg => hn g (List.mem_append_left _ hg), RV.tookL t h.2 fun g hg => hn g (List.mem_append_right _ hg)⟩
  | [], _ :: _, h, _ => h.elim
  | _ :: _, [], h, _ => h.elim
/-- The names of what is taken. -/
def KeysIn (x : Map (List PV) × Map Blk) (a b : Nat) : Prop := (∀ p ∈ x.1, a ≤ p.1 ∧ p.1 < b) ∧ ∀ p ∈ x.2, a ≤ p.1 ∧ p.1 < b
variable (C) in
theorem takeC_key (own : Bool) (ρ : Nat → Nat) (k : Nat) (c : PV) : KeysIn (takeC C own ρ k c).2 k (k + 1) := by
  cases c with
  | optr cs => exact ⟨fun p hp => by simp only [takeC, List.mem_singleton] at hp; rw [hp]; omega, fun p hp => (by cases hp)⟩
  | oarr e xs =>
    cases own with
    | true => exact ⟨fun p hp => (by cases hp), fun p hp => by simp only [takeC, if_true, List.mem_singleton] at hp; rw [hp]; omega⟩
    | false => exact ⟨fun p hp => (by cases hp), fun p hp => (by cases hp)⟩
  | _ => exact ⟨fun p hp => (by cases hp), fun p hp => (by cases hp)⟩
theorem KeysIn.app {x y : Map (List PV) × Map Blk} {a b c : Nat} (h : KeysIn x a b) (k : KeysIn y b c) (hab : a ≤ b) (hbc : b ≤ c) : KeysIn (x.1 ++ y.1, x.2 ++ y.2) a c := by
  refine ⟨fun p hp => ?_, fun p hp => ?_⟩
  · rcases List.mem_append.1 hp with hp | hp
    · have := h.1 p hp; omega
    · have := k.1 p hp; omega
  · rcases List.mem_append.1 hp with hp | hp
    · have := h.2 p hp; omega
    · have := k.2 p hp; omega
variable (C) in
theorem takeL_key (own : Bool) (ρ : Nat → Nat) : ∀ (cs : List PV) (k : Nat), KeysIn (takeL C own ρ k cs).2 k (k + cs.length)
  | [], k => ⟨fun p hp => (by cases hp), fun p hp => (by cases hp)⟩
  | c :: cs, k => by
    have h1 := takeC_key C own ρ k c
    have h2 := takeL_key own ρ cs (k + 1)
    have := h1.app h2 (by omega) (by omega)
    rw [show k + 1 + cs.length = k + (c :: cs).length by simp; omega] at this
    exact this
variable (C) in
theorem take_key (own : Bool) (ρ : Nat → Nat) (k : Nat) (c : PV) : KeysIn (take C own ρ k c).2 k (k + (cellsOf c).length) := by
  cases c with
  | agg cs => exact takeL_key C own ρ cs k
  | _ => exact takeC_key C own ρ k _
variable (C) in
theorem takeAll_key (own : Bool) (ρ : Nat → Nat) : ∀ (cs : List PV) (k : Nat), KeysIn (takeAll C own ρ k cs).2 k (k + (cs.flatMap cellsOf).length)
  | [], k => ⟨fun p hp => (by cases hp), fun p hp => (by cases hp)⟩
  | c :: cs, k => by
    have h1 := take_key C own ρ k c
    have h2 := takeAll_key own ρ cs (k + (cellsOf c).length)
    have := h1.app h2 (by omega) (by omega)
    rw [show k + (cellsOf c).length + (cs.flatMap cellsOf).length = k + ((c :: cs).flatMap cellsOf).length by simp; omega] at this
    exact this
/-- The names are free. -/
def NoKeys (st : St) (x : Map (List PV) × Map Blk) : Prop := (∀ p ∈ x.1, Map.get p.1 st.b = none) ∧ ∀ p ∈ x.2, Map.get p.1 st.m = none
theorem NoKeys.after {st : St} {x y : Map (List PV) × Map Blk} {a b c : Nat} (hx : KeysIn x a b) (hy : KeysIn y b c) (h : NoKeys st y) : NoKeys (addBM st x.1 x.2) y := by
  refine ⟨fun p hp => ?_, fun p hp => ?_⟩
  · show Map.get p.1 (Map.puts x.1 st.b) = none
    rw [puts_none _ _ fun q hq e => by
      have h1 := hx.1 q hq
      have h2 := hy.1 p hp
      omega]
    exact h.1 p hp
  · show Map.get p.1 (Map.puts x.2 st.m) = none
    rw [puts_none _ _ fun q hq e => by
      have h1 := hx.2 q hq
      have h2 := hy.2 p hp
      omega]
    exact h.2 p hp
theorem NoKeys.app {st : St} {x y : Map (List PV) × Map Blk} (h : NoKeys st (x.1 ++ y.1, x.2 ++ y.2)) : NoKeys st x ∧ NoKeys st y :=
  ⟨⟨fun p hp => h.1 p (List.mem_append_left _ hp), fun p hp => h.2 p (List.mem_append_left _ hp)⟩, ⟨fun p hp => h.1 p (List.mem_append_right _ hp), fun p hp => h.2 p (List.mem_append_right _ hp)⟩⟩
theorem takeC_ok {st : St} (own : Bool) {k : Nat} {c : PV} {u : Value} (h : Heap C κ I st.look w) (hc : RC C n1 ρ κ I st.look w c u) (hfree : ∀ g ∈ owned [c] [u], Free κ st.look g) (hk : NoKeys st (takeC C own ρ k c).2) :
    ∃ κ' I', Took C κ κ' I I' st.look (addBM st (takeC C own ρ k c).2.1 (takeC C own ρ k c).2.2).look w (owned [c] [u]) ∧ V1 C κ' I' (addBM st (takeC C own ρ k c).2.1 (takeC C own ρ k c).2.2).look w (takeC C own ρ k c).1 u := by
  have same : ∀ {c' : PV}, KR I w c' u → owned [c] [u] = [] → ∃ κ' I', Took C κ κ' I I' st.look (addBM st [] []).look w (owned [c] [u]) ∧ V1 C κ' I' (addBM st [] []).look w c' u := fun hk ho => ⟨κ, I, by rw [ho]; exact Took.none h, V1.of_KR _ _ _ _ _ hk⟩
  cases c with
  | oarr e xs =>
    obtain ⟨p, hp0, rfl, h1, h2⟩ := hc
    have hfr : ∀ a, p.1 = some a → Free κ st.look a.block := fun a ha => hfree _ (by rw [ha]; simp [owned])
    have hgs : ∀ a, p.1 = some a → a.block ∈ owned [.oarr e xs] [.slice p.1 xs.length p.2.1] := fun a ha => by rw [ha]; simp [owned]
    cases own with
    | true =>
      have hk0 : Map.get k st.m = none := hk.2 (k, { froz := false, n := xs.length, e, xs }) (by simp [takeC])
      refine ⟨κ.setBlk k p, I, adopt_blk (key := k) (B0 := { froz := false, n := xs.length, e, xs }) h hk0 h2 hfr hgs (fun _ => rfl) (fun j => get_put _ _ _ _), ?_⟩
      refine ⟨{ froz := false, n := xs.length, e, xs }, p.1, p.2.1, ?_, rfl, Nat.le_refl _, fun _ => ⟨?_, by simp, ?_, fun hpos => ?_, fun _ => ?_⟩⟩
      · show Map.get k (Map.put k _ st.m) = _
        rw [get_put, if_pos rfl]
      · rw [show (κ.setBlk k p).blk k = p from if_pos rfl]
        show p.2.2 ≤ 0
        omega
      · rw [show (κ.setBlk k p).blk k = p from if_pos rfl, Nat.zero_sub, Nat.sub_zero]
      · rw [show (κ.setBlk k p).blk k = p from if_pos rfl]
        rcases (h2 ⟨fun _ => 0, fun _ => p⟩ 0 rfl).place with ⟨_, h5, h4⟩ | ⟨g, cur, h4, _⟩
        · have h5 : p.2.1 = 0 := h5
          have h4 : xs.length = p.2.2 := h4
          omega
        · have h4 : p.1 = some ⟨g, 0, none⟩ := h4
          exact ⟨_, h4, by rw [h4, Nat.zero_sub, Nat.zero_mul]; rfl⟩
      · rw [show (κ.setBlk k p).blk k = p from if_pos rfl]
    | false =>
      obtain ⟨I', t, hkr⟩ := keep_blk h hp0 h2 hfr hgs
      exact ⟨κ, I', t, V1.of_KR _ _ _ _ _ hkr⟩
  | optr cs =>
    obtain ⟨g, e, us, rfl, h1, h2, h3, h4⟩ := hc
    have hf := hfree g (by simp [owned])
    have hk0 : Map.get k st.b = none := hk.1 (k, cs) (by simp [takeC])
    refine ⟨κ.setBox k g, I, adopt_box h (L' := (addBM st [(k, cs)] []).look) hk0 h2 h3 h4 hf (fun j => get_put _ _ _ _) (fun _ => rfl), ?_, ?_⟩
    · show (Map.get k (Map.put k cs st.b)).isSome = true
      rw [get_put, if_pos rfl]; rfl
    · simp only [Place.setBox, if_true]
  | ref j o l ver => exact ⟨κ, I, Took.none h, hc⟩
  | nil => exact same hc rfl
  | int _ _ => exact same hc rfl
  | bool _ => exact same hc rfl
  | str _ => exact same hc rfl
  | arr _ _ => exact same hc rfl
  | fn _ _ => exact same hc rfl
  | _ => exact (by simp only [RC, KR] at hc)
theorem takeL_ok (own : Bool) : ∀ (cs : List PV) (us : List Value) (k : Nat) (κ : Place) (I : Nat → Prop) (st : St), Heap C κ I st.look w → All2 (RC C n1 ρ κ I st.look w) cs us → (owned cs us).Nodup → (∀ g ∈ owned cs us, Free κ st.look g) → NoKeys st (takeL C own ρ k cs).2 →
    ∃ κ' I', Took C κ κ' I I' st.look (addBM st (takeL C own ρ k cs).2.1 (takeL C own ρ k cs).2.2).look w (owned cs us) ∧ All2 (V1 C κ' I' (addBM st (takeL C own ρ k cs).2.1 (takeL C own ρ k cs).2.2).look w) (takeL C own ρ k cs).1 us
  | [], [], k, κ, I, st, h, _, _, _, _ => ⟨κ, I, Took.none h, trivial⟩
  | c :: cs, u :: us, k, κ, I, st, h, hc, hnd, hfree, hk => by
    have ho : owned (c :: cs) (u :: us) = owned [c] [u] ++ owned cs us := owned_append [c] [u] cs us rfl
    rw [ho] at hnd hfree ⊢
    obtain ⟨n1, n2, n3⟩ := List.nodup_append.1 hnd
    obtain ⟨hk1, hk2⟩ := NoKeys.app (x := (takeC C own ρ k c).2) (y := (takeL C own ρ (k + 1) cs).2) hk
    obtain ⟨κ1, I1, t1, v1⟩ := takeC_ok own (k := k) h hc.1 (fun g hg => hfree g (List.mem_append_left _ hg)) hk1
    obtain ⟨κ2, I2, t2, v2⟩ := takeL_ok own cs us (k + 1) κ1 I1 _ t1.heap (RC.tookL t1 hc.2 fun g hg hg' => n3 g hg' g hg rfl) n2 (fun g hg => t1.free (hfree g (List.mem_append_right _ hg)) fun hg' => n3 g hg' g hg rfl) (NoKeys.after (takeC_key C own ρ k c) (takeL_key C own ρ cs (k + 1)) hk2)
    refine ⟨κ2, I2, ?_, ?_⟩
    · have := t1.seq t2
      simp only [takeL]
      rw [addBM_append]
      exact this
    · simp only [takeL]
      rw [addBM_append]
      exact ⟨V1.go t2.goes v1, v2⟩
  | [], _ :: _, _, _, _, _, _, hc, _, _, _ => hc.elim
  | _ :: _, [], _, _, _, _, _, hc, _, _, _ => hc.elim
theorem take_ok {st : St} (own : Bool) {k : Nat} {c : PV} {u : Value} (h : Heap C κ I st.look w) (hc : RV C n1 ρ κ I st.look w c u) (hnd : (owned (cellsOf c) u.cells.toList).Nodup) (hfree : ∀ g ∈ owned (cellsOf c) u.cells.toList, Free κ st.look g) (hk : NoKeys st (take C own ρ k c).2) :
    ∃ κ' I', Took C κ κ' I I' st.look (addBM st (take C own ρ k c).2.1 (take C own ρ k c).2.2).look w (owned (cellsOf c) u.cells.toList) ∧ VA C κ' I' (addBM st (take C own ρ k c).2.1 (take C own ρ k c).2.2).look w (take C own ρ k c).1 u := by
  have one : ∀ {c : PV}, RC C n1 ρ κ I st.look w c u → (∀ g ∈ owned (cellsOf c) u.cells.toList, Free κ st.look g) → NoKeys st (takeC C own ρ k c).2 → ∃ κ' I', Took C κ κ' I I' st.look (addBM st (takeC C own ρ k c).2.1 (takeC C own ρ k c).2.2).look w (owned (cellsOf c) u.cells.toList) ∧ VA C κ' I' (addBM st (takeC C own ρ k c).2.1 (takeC C own ρ k c).2.2).look w (takeC C own ρ k c).1 u := by
    intro c hc hf hk
    rw [RC.cellsOf hc, cells_one (RC.oneCell hc)] at hf ⊢
    obtain ⟨κ', I', t, v⟩ := takeC_ok own h hc hf hk
    exact ⟨κ', I', t, VA.of_V1 _ _ _ _ _ v⟩
  cases c with
  | agg cs =>
    obtain ⟨us, rfl, h1⟩ := hc
    obtain ⟨κ', I', t, v⟩ := takeL_ok own cs us.toList k κ I st h h1 hnd hfree hk
    exact ⟨κ', I', t, us, rfl, v⟩
  | undef => exact one (c := .undef) hc hfree hk
  | skip => exact one (c := .skip) hc hfree hk
  | tup x => exact one (c := .tup x) hc hfree hk
  | nil => exact one (c := .nil) hc hfree hk
  | int k n => exact one (c := .int k n) hc hfree hk
  | bool b => exact one (c := .bool b) hc hfree hk
  | str s => exact one (c := .str s) hc hfree hk
  | arr s x => exact one (c := .arr s x) hc hfree hk
  | oarr s x => exact one (c := .oarr s x) hc hfree hk
  | ref k o l ver => exact one (c := .ref k o l ver) hc hfree hk
  | ptr k o => exact one (c := .ptr k o) hc hfree hk
  | eptr k i o ver => exact one (c := .eptr k i o ver) hc hfree hk
  | cptr x o => exact one (c := .cptr x o) hc hfree hk
  | optr x => exact one (c := .optr x) hc hfree hk
  | fn g x => exact one (c := .fn g x) hc hfree hk
theorem takeAll_ok (own : Bool) : ∀ (cs : List PV) (us : List Value) (k : Nat) (κ : Place) (I : Nat → Prop) (st : St), Heap C κ I st.look w → All2 (RV C n1 ρ κ I st.look w) cs us → (owned (cs.flatMap cellsOf) (us.flatMap (·.cells.toList))).Nodup → (∀ g ∈ owned (cs.flatMap cellsOf) (us.flatMap (·.cells.toList)), Free κ st.look g) → NoKeys st (takeAll C own ρ k cs).2 →
    ∃ κ' I', Took C κ κ' I I' st.look (addBM st (takeAll C own ρ k cs).2.1 (takeAll C own ρ k cs).2.2).look w (owned (cs.flatMap cellsOf) (us.flatMap (·.cells.toList))) ∧ All2 (VA C κ' I' (addBM st (takeAll C own ρ k cs).2.1 (takeAll C own ρ k cs).2.2).look w) (takeAll C own ρ k cs).1 us
  | [], [], k, κ, I, st, h, _, _, _, _ => ⟨κ, I, Took.none h, trivial⟩
  | c :: cs, u :: us, k, κ, I, st, h, hc, hnd, hfree, hk => by
    have ho : owned ((c :: cs).flatMap cellsOf) ((u :: us).flatMap (·.cells.toList)) = owned (cellsOf c) u.cells.toList ++ owned (cs.flatMap cellsOf) (us.flatMap (·.cells.toList)) := by
      rw [List.flatMap_cons, List.flatMap_cons]
      exact owned_append _ _ _ _ (RV.length hc.1)
    rw [ho] at hnd hfree ⊢
    obtain ⟨n1, n2, n3⟩ := List.nodup_append.1 hnd
    obtain ⟨hk1, hk2⟩ := NoKeys.app (x := (take C own ρ k c).2) (y := (takeAll C own ρ (k + (cellsOf c).length) cs).2) hk
    obtain ⟨κ1, I1, t1, v1⟩ := take_ok own (k := k) h hc.1 n1 (fun g hg => hfree g (List.mem_append_left _ hg)) hk1
    obtain ⟨κ2, I2, t2, v2⟩ := takeAll_ok own cs us (k + (cellsOf c).length) κ1 I1 _ t1.heap (RV.tookL t1 hc.2 fun g hg hg' => n3 g hg' g hg rfl) n2 (fun g hg => t1.free (hfree g (List.mem_append_right _ hg)) fun hg' => n3 g hg' g hg rfl) (NoKeys.after (take_key C own ρ k c) (takeAll_key C own ρ cs (k + (cellsOf c).length)) hk2)
    refine ⟨κ2, I2, ?_, ?_⟩
    · have := t1.seq t2
      simp only [takeAll]
      rw [addBM_append]
      exact this
    · simp only [takeAll]
      rw [addBM_append]
      exact ⟨VA.go t2.goes v1, v2⟩
  | [], _ :: _, _, _, _, _, _, hc, _, _, _ => hc.elim
  | _ :: _, [], _, _, _, _, _, hc, _, _, _ => hc.elim
/-- Results taken. -/
theorem takeRes_ok {st : St} (own : Bool) {k : Nat} {rs : List PV} {us : List Value} (h : Heap C κ I st.look w) (hc : All2 (RV C n1 ρ κ I st.look w) rs us) (hnd : (owned (rs.flatMap cellsOf) (us.flatMap (·.cells.toList))).Nodup) (hfree : ∀ g ∈ owned (rs.flatMap cellsOf) (us.flatMap (·.cells.toList)), Free κ st.look g) (hk : NoKeys st (takeRes C own ρ k rs).2) :
    ∃ κ' I', Took C κ κ' I I' st.look (addBM st (takeRes C own ρ k rs).2.1 (takeRes C own ρ k rs).2.2).look w (owned (rs.flatMap cellsOf) (us.flatMap (·.cells.toList))) ∧ VR C κ' I' (addBM st (takeRes C own ρ k rs).2.1 (takeRes C own ρ k rs).2.2).look w (takeRes C own ρ k rs).1 (asOne us) := by
  match rs, us, hc, hnd, hfree, hk with
  | [], [], _, _, _, _ => exact ⟨κ, I, Took.none h, #[], rfl, trivial⟩
  | [c], [u], hc, hnd, hfree, hk =>
    simp only [List.flatMap_cons, List.flatMap_nil, List.append_nil] at hnd hfree ⊢
    obtain ⟨κ', I', t, v⟩ := take_ok own h hc.1 hnd hfree hk
    exact ⟨κ', I', t, VR.of_VA _ _ _ _ _ v⟩
  | c :: c' :: cs, u :: u' :: us, hc, hnd, hfree, hk =>
    obtain ⟨κ', I', t, v⟩ := takeAll_ok own (c :: c' :: cs) (u :: u' :: us) k κ I st h hc hnd hfree hk
    exact ⟨κ', I', t, (u :: u' :: us).toArray, by simp [asOne], v⟩
  | [], _ :: _, hc, _, _, _ => exact hc.elim
  | [c], u :: u' :: us, hc, _, _, _ => exact hc.2.elim
  | _ :: _, [], hc, _, _, _ => exact hc.elim
  | c :: c' :: cs, [u], hc, _, _, _ => exact hc.2.elim
end
end Go.AI
