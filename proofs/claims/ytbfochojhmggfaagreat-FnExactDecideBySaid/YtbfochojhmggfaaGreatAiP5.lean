/- The interpreter is right, drawn orders included; how data are read. -/
import Derived.Test.YtbfochojhmggfaaGreatAiP3
import Derived.Test.YtbfochojhmggfaaGreatAiP4
import Derived.Orders
import Derived.Sort.OwnSortedInts
import Derived.Lib.OwnBridge
import Derived.ChangeArms
import Derived.Deep.Slices
set_option linter.unusedSimpArgs false
set_option linter.unusedVariables false
/- Calls. -/
namespace Go.AI
open Go Go.RowKit
section
variable {C : Cfg} {good : TypeId → Bool} {κ κ0 : Place} {I I1 : Nat → Prop} {L L0 : Look} {w : World}
theorem mapAll (f : Operand → PV) (g : Operand → Value) {R : PV → Value → Prop} (h : ∀ x, R (f x) (g x)) : ∀ l : List Operand, All2 R (l.map f) (l.map g)
  | [] => trivial
  | x :: l => ⟨h x, mapAll f g h l⟩
theorem RC.plain {nb : Nat} {ρ : Nat → Nat} {κ' : Place} {I' : Nat → Prop} {L' : Look} {w' : World} {c : PV} {u : Value} (hp : plainCell c = true) (h : RC C nb ρ κ I L w c u) : V1 C κ' I' L' w' c u := by
  cases c with
  | int k n => exact h
  | bool b => exact h
  | str s => exact h
  | _ => cases hp
theorem RV.plain {nb : Nat} {ρ : Nat → Nat} {κ' : Place} {I' : Nat → Prop} {L' : Look} {w' : World} {c : PV} {u : Value} (hp : (cellsOf c).all plainCell = true) (h : RV C nb ρ κ I L w c u) : VA C κ' I' L' w' c u := by
  cases c with
  | agg cs =>
    obtain ⟨us, rfl, h1⟩ := h
    refine ⟨us, rfl, All2.of h1.length fun i c v hc hv => ?_⟩
    obtain ⟨v', hv', hcv⟩ := h1.get hc
    rw [hv] at hv'
    cases hv'
    exact RC.plain (List.all_eq_true.1 hp c (List.mem_of_getElem? hc)) hcv
  | int k n => exact h
  | bool b => exact h
  | str s => exact h
  | _ => cases hp
theorem takeAll_plain (own : Bool) (ρ' : Nat → Nat) : ∀ (rs : List PV) (k : Nat), plainRes rs = true → takeAll C own ρ' k rs = (rs, [], [])
  | [], _, _ => rfl
  | v :: rs, k, h => by
    unfold plainRes at h
    rw [List.all_cons, Bool.and_eq_true] at h
    rw [takeAll, take_plain C own ρ' k v h.1, takeAll_plain own ρ' rs _ h.2]
    rfl
theorem Res.plain {nb : Nat} {ρ : Nat → Nat} {κ' : Place} {I' : Nat → Prop} {L' : Look} {w' : World} {rs : List PV} {v : Value} (hp : plainRes rs = true) (own : Bool) (ρ' : Nat → Nat) (k : Nat) (h : Res C nb ρ κ I L w rs v) : VR C κ' I' L' w' (takeRes C own ρ' k rs).1 v := by
  obtain ⟨us, h1, _, _, rfl⟩ := h
  have hp' : ∀ c ∈ rs, (cellsOf c).all plainCell = true := List.all_eq_true.1 hp
  match rs, us, h1, hp, hp' with
  | [], [], h1, hp, hp' => exact ⟨#[], rfl, trivial⟩
  | [c], [u], h1, hp, hp' =>
    show VR C κ' I' L' w' (take C own ρ' k c).1 u
    rw [take_plain C own ρ' k c (hp' c (by simp))]
    exact VR.of_VA _ _ _ _ _ (RV.plain (hp' c (by simp)) h1.1)
  | c :: c' :: cs, u :: u' :: us, h1, hp, hp' =>
    refine ⟨(u :: u' :: us).toArray, by simp [asOne], ?_⟩
    show All2 _ (takeAll C own ρ' k (c :: c' :: cs)).1 _
    rw [takeAll_plain own ρ' _ k hp]
    refine All2.of h1.length fun i x y hx hy => ?_
    obtain ⟨y', hy', hxy⟩ := h1.get hx
    have hy : (u :: u' :: us)[i]? = some y := hy
    rw [hy] at hy'
    cases hy'
    exact RV.plain (hp' x (List.mem_of_getElem? hx)) hxy
  | [], _ :: _, h1, _, _ => exact h1.elim
  | [c], u :: u' :: us, h1, _, _ => exact h1.2.elim
  | _ :: _, [], h1, _, _ => exact h1.elim
  | c :: c' :: cs, [u], h1, _, _ => exact h1.2.elim
/-- What is handed on stands as the callee sees it. -/
structure HandCtx (κ κc : Place) (Lc : Look) (r : Hand) : Prop where
  b : ∀ p cs, (p, cs) ∈ r.b → Lc.b p = some cs
  m : ∀ j B, (j, B) ∈ r.m → Lc.m j = some B
  kb : ∀ p k, (p, k) ∈ r.kb → κc.box p = κ.box k
  km : ∀ j k, (j, k) ∈ r.km → κc.blk j = κ.blk k
theorem HandCtx.left {κc : Place} {Lc : Look} {x y : Hand} (h : HandCtx κ κc Lc (x.app y)) : HandCtx κ κc Lc x :=
  ⟨fun p cs hm => h.b p cs (List.mem_append_left _ hm), fun p cs hm => h.m p cs (List.mem_append_left _ hm), fun p cs hm => h.kb p cs (List.mem_append_left _ hm), fun p cs hm => h.km p cs (List.mem_append_left _ hm)⟩
theorem HandCtx.right {κc : Place} {Lc : Look} {x y : Hand} (h : HandCtx κ κc Lc (x.app y)) : HandCtx κ κc Lc y :=
  ⟨fun p cs hm => h.b p cs (List.mem_append_right _ hm), fun p cs hm => h.m p cs (List.mem_append_right _ hm), fun p cs hm => h.kb p cs (List.mem_append_right _ hm), fun p cs hm => h.km p cs (List.mem_append_right _ hm)⟩
/-- What is handed on, by its names. -/
structure HandFacts (C : Cfg) (L : Look) (r : Hand) : Prop where
  ms : ∀ j B, (j, B) ∈ r.m → ∃ k, (j, k) ∈ r.km ∧ L.m k = some B ∧ B.froz = false
  mn : r.m.map (·.1) = r.km.map (·.1)
  bs : ∀ p cs, (p, cs) ∈ r.b → ∃ k cs0 x, (p, k) ∈ r.kb ∧ L.b k = some cs0 ∧ handCells C L (p + 1) cs0 = some x ∧ x.vs = cs ∧ x.b = [] ∧ x.kb = [] ∧ (∀ z ∈ x.m, z ∈ r.m) ∧ ∀ z ∈ x.km, z ∈ r.km
  bn : r.b.map (·.1) = r.kb.map (·.1)
theorem HandFacts.none {vs : List PV} : HandFacts C L { vs } := ⟨fun j B h => (by cases h), rfl, fun j B h => (by cases h), rfl⟩
theorem HandFacts.app {x y : Hand} (hx : HandFacts C L x) (hy : HandFacts C L y) : HandFacts C L (x.app y) where
  ms := fun j B h => by
    rcases List.mem_append.1 h with h | h
    · obtain ⟨k, h1, h2⟩ := hx.ms j B h
      exact ⟨k, List.mem_append_left _ h1, h2⟩
    · obtain ⟨k, h1, h2⟩ := hy.ms j B h
      exact ⟨k, List.mem_append_right _ h1, h2⟩
  mn := by simp only [Hand.app, List.map_append, hx.mn, hy.mn]
  bs := fun p cs h => by
    rcases List.mem_append.1 h with h | h
    · obtain ⟨k, c0, z, h1, h2, h3, h4, h5, h6, h7, h8⟩ := hx.bs p cs h
      exact ⟨k, c0, z, List.mem_append_left _ h1, h2, h3, h4, h5, h6, fun u hu => List.mem_append_left _ (h7 u hu), fun u hu => List.mem_append_left _ (h8 u hu)⟩
    · obtain ⟨k, c0, z, h1, h2, h3, h4, h5, h6, h7, h8⟩ := hy.bs p cs h
      exact ⟨k, c0, z, List.mem_append_right _ h1, h2, h3, h4, h5, h6, fun u hu => List.mem_append_right _ (h7 u hu), fun u hu => List.mem_append_right _ (h8 u hu)⟩
  bn := by simp only [Hand.app, List.map_append, hx.bn, hy.bn]
theorem handC_facts {j : Nat} {c : PV} {r : Hand} (h : handC C L j c = some r) : HandFacts C L r ∧ r.b = [] ∧ r.kb = [] := by
  have keep : ∀ {c : PV}, (keepC C L c).map (fun c => ({ vs := [c] } : Hand)) = some r → HandFacts C L r ∧ r.b = [] ∧ r.kb = [] := by
    intro c h
    obtain ⟨c', _, rfl⟩ := Option.map_eq_some_iff.1 h
    exact ⟨HandFacts.none, rfl, rfl⟩
  cases c with
  | ref k off len ver =>
    cases off with
    | zero =>
      simp only [handC] at h
      obtain ⟨B, hB, h1⟩ := Option.bind_eq_some_iff.1 h
      split at h1
      · rename_i hc
        cases h1
        refine ⟨⟨fun j' B' hm => ?_, rfl, fun p cs hm => (by cases hm), rfl⟩, rfl, rfl⟩
        simp only [List.mem_singleton] at hm
        cases hm
        exact ⟨k, by simp, hB, hc.1⟩
      · cases h1
    | succ n => cases h
  | _ => simp only [handC] at h; exact keep h
theorem handCells_facts : ∀ {cs : List PV} {j : Nat} {r : Hand}, handCells C L j cs = some r → HandFacts C L r ∧ r.b = [] ∧ r.kb = []
  | [], _, _, h => by cases h; exact ⟨HandFacts.none, rfl, rfl⟩
  | c :: cs, j, r, h => by
    simp only [handCells] at h
    obtain ⟨x, h1, h2⟩ := Option.bind_eq_some_iff.1 h
    obtain ⟨y, h3, h4⟩ := Option.bind_eq_some_iff.1 h2
    cases h4
    obtain ⟨a1, a2, a3⟩ := handC_facts h1
    obtain ⟨b1, b2, b3⟩ := handCells_facts h3
    exact ⟨a1.app b1, by simp [Hand.app, a2, b2], by simp [Hand.app, a3, b3]⟩
theorem handV_facts {p : Nat} {v : PV} {r : Hand} (h : handV C L p v = some r) : HandFacts C L r := by
  cases v with
  | ptr k off =>
    cases off with
    | zero =>
      simp only [handV] at h
      obtain ⟨cs, hcs, h1⟩ := Option.bind_eq_some_iff.1 h
      obtain ⟨x, hx, h2⟩ := Option.bind_eq_some_iff.1 h1
      cases h2
      obtain ⟨a1, a2, a3⟩ := handCells_facts hx
      refine ⟨a1.ms, a1.mn, fun q cs' hm => ?_, rfl⟩
      simp only [List.mem_singleton] at hm
      cases hm
      exact ⟨k, cs, x, by simp, hcs, hx, rfl, a2, a3, fun z hz => hz, fun z hz => hz⟩
    | succ n => cases h
  | ref k off len ver => exact (handC_facts h).1
  | _ => cases h
theorem hand_facts {io : List Nat} : ∀ {vs : List PV} {p : Nat} {r : Hand}, hand C L io p vs = some r → HandFacts C L r
  | [], _, _, h => by cases h; exact HandFacts.none
  | v :: vs, p, r, h => by
    simp only [hand] at h
    obtain ⟨x, h1, h2⟩ := Option.bind_eq_some_iff.1 h
    obtain ⟨y, h3, h4⟩ := Option.bind_eq_some_iff.1 h2
    cases h4
    refine HandFacts.app ?_ (hand_facts h1)
    split at h3
    · exact handV_facts h3
    · obtain ⟨v', _, rfl⟩ := Option.map_eq_some_iff.1 h3
      exact HandFacts.none
theorem hand_none' : ∀ {vs : List PV} {p : Nat} {r : Hand}, hand C L [] p vs = some r → r.b = [] ∧ r.m = [] ∧ r.kb = [] ∧ r.km = []
  | [], _, _, h => by cases h; exact ⟨rfl, rfl, rfl, rfl⟩
  | v :: vs, p, r, h => by
    simp only [hand] at h
    obtain ⟨x, h1, h2⟩ := Option.bind_eq_some_iff.1 h
    obtain ⟨y, h3, h4⟩ := Option.bind_eq_some_iff.1 h2
    cases h4
    obtain ⟨a1, a2, a3, a4⟩ := hand_none' h1
    rw [show isHand [] p v = false from rfl] at h3
    simp only [Bool.false_eq_true, if_false] at h3
    obtain ⟨v', _, rfl⟩ := Option.map_eq_some_iff.1 h3
    simp [Hand.app, a1, a2, a3, a4]
theorem handC_ok {κc : Place} {Lc : Look} (h : Heap C κ I L w) (hI : ∀ i, I i → I1 i) {j : Nat} {c : PV} {v : Value} {r : Hand} (hr : handC C L j c = some r) (hx : HandCtx κ κc Lc r) (hv : V1 C κ I L w c v) : All2 (V1 C κc I1 Lc w) r.vs [v] := by
  have keep : ∀ {c : PV}, V1 C κ I L w c v → refKey c = [] → (keepC C L c).map (fun c => ({ vs := [c] } : Hand)) = some r → All2 (V1 C κc I1 Lc w) r.vs [v] := by
    intro c hv hc h1
    obtain ⟨c', h2, rfl⟩ := Option.map_eq_some_iff.1 h1
    exact ⟨V1.of_KR _ _ _ _ _ (keepC_ok h hI hv h2 fun k hk => by rw [hc] at hk; cases hk), trivial⟩
  cases c with
  | ref k off len ver =>
    cases off with
    | zero =>
      simp only [handC] at hr
      obtain ⟨B, hB, h1⟩ := Option.bind_eq_some_iff.1 hr
      split at h1
      · rename_i hc
        cases h1
        obtain ⟨_, rfl, rfl⟩ := hc
        obtain ⟨B', A, cap, g1, g2, g3, g4⟩ := hv
        rw [hB] at g1
        cases g1
        have e1 := hx.m j B (by simp)
        have e2 := hx.km j k (by simp)
        exact ⟨⟨B, A, cap, e1, g2, g3, by rw [e2]; exact g4⟩, trivial⟩
      · cases h1
    | succ n => cases hr
  | undef => simp only [handC] at hr; exact keep hv rfl hr
  | skip => simp only [handC] at hr; exact keep hv rfl hr
  | tup _ => simp only [handC] at hr; exact keep hv rfl hr
  | agg _ => simp only [handC] at hr; exact keep hv rfl hr
  | nil => simp only [handC] at hr; exact keep hv rfl hr
  | int k n => simp only [handC] at hr; exact keep hv rfl hr
  | bool b => simp only [handC] at hr; exact keep hv rfl hr
  | str s => simp only [handC] at hr; exact keep hv rfl hr
  | arr s y => simp only [handC] at hr; exact keep hv rfl hr
  | oarr s y => simp only [handC] at hr; exact keep hv rfl hr
  | ptr k o => simp only [handC] at hr; exact keep hv rfl hr
  | eptr k i o ver => simp only [handC] at hr; exact keep hv rfl hr
  | cptr y o => simp only [handC] at hr; exact keep hv rfl hr
  | optr y => simp only [handC] at hr; exact keep hv rfl hr
  | fn g y => simp only [handC] at hr; exact keep hv rfl hr
theorem handCells_ok {κc : Place} {Lc : Look} (h : Heap C κ I L w) (hI : ∀ i, I i → I1 i) : ∀ {cs : List PV} {vs : List Value} {j : Nat} {r : Hand}, handCells C L j cs = some r → HandCtx κ κc Lc r → All2 (V1 C κ I L w) cs vs → All2 (V1 C κc I1 Lc w) r.vs vs
  | [], [], _, _, hr, _, _ => by cases hr; trivial
  | c :: cs, v :: vs, j, r, hr, hx, hv => by
    simp only [handCells] at hr
    obtain ⟨x, h1, h2⟩ := Option.bind_eq_some_iff.1 hr
    obtain ⟨y, h3, h4⟩ := Option.bind_eq_some_iff.1 h2
    cases h4
    exact (handC_ok h hI h1 hx.left hv.1).append (handCells_ok h hI h3 hx.right hv.2)
  | [], _ :: _, _, _, _, _, hv => hv.elim
  | _ :: _, [], _, _, _, _, hv => hv.elim
theorem handV_ok {κc : Place} {Lc : Look} (h : Heap C κ I L w) (hI : ∀ i, I i → I1 i) {p : Nat} {c : PV} {v : Value} {r : Hand} (hr : handV C L p c = some r) (hx : HandCtx κ κc Lc r) (hv : VR C κ I L w c v) : All2 (VR C κc I1 Lc w) r.vs [v] := by
  cases c with
  | ptr k off =>
    cases off with
    | zero =>
      simp only [handV] at hr
      obtain ⟨cs, hcs, h1⟩ := Option.bind_eq_some_iff.1 hr
      obtain ⟨x, hx2, h2⟩ := Option.bind_eq_some_iff.1 h1
      cases h2
      have e1 := hx.b (64 * p) x.vs (by simp)
      have e2 := hx.kb (64 * p) k (by simp)
      obtain ⟨_, hv2⟩ := hv
      refine ⟨⟨by rw [e1]; rfl, ?_⟩, trivial⟩
      rw [hv2, e2]
    | succ n => cases hr
  | ref k off len ver =>
    have := handC_ok h hI (c := .ref k off len ver) hr hx hv
    exact this.mono fun a b hab => VR.of_V1 _ _ _ _ _ hab
  | _ => cases hr
/-- What is lent may be lent. -/
def LentAll (κ : Place) (I1 : Nat → Prop) (L : Look) (io : List Nat) : Nat → List PV → Prop
  | _, [] => True
  | p, v :: vs => (isHand io p v = false → Lent κ I1 L (cellsOf v)) ∧ LentAll κ I1 L io (p + 1) vs
theorem hand_ok {κc : Place} {Lc : Look} (h : Heap C κ I L w) (hI : ∀ i, I i → I1 i) {io : List Nat} : ∀ {vs : List PV} {us : List Value} {p : Nat} {r : Hand}, hand C L io p vs = some r → HandCtx κ κc Lc r → All2 (VR C κ I L w) vs us → LentAll κ I1 L io p vs → All2 (VR C κc I1 Lc w) r.vs us
  | [], [], _, _, hr, _, _, _ => by cases hr; trivial
  | v :: vs, u :: us, p, r, hr, hx, hv, hl => by
    simp only [hand] at hr
    obtain ⟨x, h1, h2⟩ := Option.bind_eq_some_iff.1 hr
    obtain ⟨y, h3, h4⟩ := Option.bind_eq_some_iff.1 h2
    cases h4
    have ih := hand_ok h hI h1 hx.right hv.2 hl.2
    have h5 : All2 (VR C κc I1 Lc w) y.vs [u] := by
      split at h3
      · exact handV_ok h hI h3 hx.left hv.1
      · rename_i hn
        obtain ⟨v', h5, rfl⟩ := Option.map_eq_some_iff.1 h3
        exact ⟨lend_ok h hI hv.1 (hl.1 (by simpa using hn)) h5, trivial⟩
    exact h5.append ih
  | [], _ :: _, _, _, _, _, hv, _ => hv.elim
  | _ :: _, [], _, _, _, _, hv, _ => hv.elim
theorem lent_any {io : List Nat} (hh : ∀ cells, Lent κ I1 L cells) : ∀ (vs : List PV) (p : Nat), LentAll κ I1 L io p vs
  | [], _ => trivial
  | _ :: vs, p => ⟨fun _ => hh _, lent_any hh vs (p + 1)⟩
theorem lent_some {io : List Nat} : ∀ (vs : List PV) (p : Nat), (∀ k ∈ lentM io p vs, ∀ B a, L.m k = some B → (κ.blk k).1 = some a → I1 a.block) → lentB io p vs = [] → LentAll κ I1 L io p vs
  | [], _, _, _ => trivial
  | v :: vs, p, hm, hb => by
    simp only [lentB, List.append_eq_nil_iff] at hb
    simp only [lentM] at hm
    refine ⟨fun hn => ?_, lent_some vs (p + 1) (fun k hk => hm k (List.mem_append_right _ hk)) hb.2⟩
    rw [hn] at hb hm
    simp only [Bool.false_eq_true, if_false] at hb hm
    exact ⟨fun k hk => (by rw [hb.1] at hk; cases hk), fun k hk => hm k (List.mem_append_left _ hk)⟩
/-! Names changed. -/
theorem get_puts {α : Type} {k : Nat} : ∀ (x m : Map α), (x.map (·.1)).Nodup → Map.get k (Map.puts x m) = if (Map.get k x).isSome then Map.get k x else Map.get k m
  | [], _, _ => rfl
  | (j, v) :: x, m, hn => by
    simp only [List.map_cons, List.nodup_cons] at hn
    simp only [Map.puts, Map.get]
    rw [get_puts x _ hn.2, get_put]
    by_cases e : j = k
    · subst e
      have : Map.get j x = none := by
        cases hx : Map.get j x with
        | none => rfl
        | some u => exact absurd (List.mem_map.2 ⟨(j, u), mem_of_get hx, rfl⟩) hn.1
      simp [this]
    · simp only [if_neg e]
theorem ren_get {α β : Type} {f : Nat → Nat} {g : α → β} {k : Nat} {v : β} : ∀ {m : Map α}, ((m.map fun p => (f p.1, g p.2)).map (·.1)).Nodup → Map.get k (m.map fun p => (f p.1, g p.2)) = some v → ∃ j u, Map.get j m = some u ∧ f j = k ∧ g u = v
  | (j, u) :: m, hn, h => by
    simp only [List.map_cons, List.nodup_cons] at hn
    simp only [List.map_cons, Map.get] at h
    split at h
    · rename_i e
      cases h
      exact ⟨j, u, by simp only [Map.get, if_true], e, rfl⟩
    · rename_i e
      obtain ⟨j', u', h1, h2, h3⟩ := ren_get hn.2 h
      refine ⟨j', u', ?_, h2, h3⟩
      simp only [Map.get]
      rw [if_neg]
      · exact h1
      · rintro rfl
        exact e h2
theorem ren_put {α β : Type} {f : Nat → Nat} {g : α → β} {j : Nat} {u : α} : ∀ {m : Map α}, ((m.map fun p => (f p.1, g p.2)).map (·.1)).Nodup → Map.get j m = some u → Map.get (f j) (m.map fun p => (f p.1, g p.2)) = some (g u)
  | (i, v) :: m, hn, h => by
    simp only [List.map_cons, List.nodup_cons] at hn
    simp only [Map.get] at h
    simp only [List.map_cons, Map.get]
    split at h
    · rename_i e
      cases h
      rw [if_pos (by rw [e])]
    · rw [if_neg]
      · exact ren_put hn.2 h
      · intro e
        refine hn.1 (List.mem_map.2 ⟨(f j, g u), ?_, e.symm⟩)
        exact List.mem_map.2 ⟨(j, u), mem_of_get h, rfl⟩
theorem ren_inj {α β : Type} {f : Nat → Nat} {g : α → β} {j j' : Nat} : ∀ {m : Map α}, ((m.map fun p => (f p.1, g p.2)).map (·.1)).Nodup → (Map.get j m).isSome → (Map.get j' m).isSome → f j = f j' → j = j'
  | [], _, h, _, _ => by cases h
  | (i, v) :: m, hn, h, h', e => by
    simp only [List.map_cons, List.nodup_cons] at hn
    simp only [Map.get] at h h'
    have key : ∀ {j : Nat}, (Map.get j m).isSome → f i = f j → False := by
      intro j hj e
      obtain ⟨u, hu⟩ := Option.isSome_iff_exists.1 hj
      exact hn.1 (List.mem_map.2 ⟨(f j, g u), List.mem_map.2 ⟨(j, u), mem_of_get hu, rfl⟩, e.symm⟩)
    by_cases e1 : i = j <;> by_cases e2 : i = j'
    · exact e1.symm.trans e2
    · rw [if_neg e2] at h'
      exact (key h' (by rw [e1]; exact e)).elim
    · rw [if_neg e1] at h
      exact (key h (by rw [e2]; exact e.symm)).elim
    · rw [if_neg e1] at h
      rw [if_neg e2] at h'
      exact ren_inj hn.2 h h' e
theorem V1.ren {κ' κ2 : Place} {L' L2 : Look} {ρ : Nat → Nat} (hm : ∀ j B, L'.m j = some B → L2.m (ρ j) = some B ∧ κ2.blk (ρ j) = κ'.blk j) {c : PV} {v : Value} (hp : ptrKey c = []) (he : eptrKey c = []) (hv : V1 C κ' I L' w c v) : V1 C κ2 I L2 w (renC ρ c) v := by
  cases c with
  | ref k off len ver =>
    obtain ⟨B, A, cap, g1, g2, g3, g4⟩ := hv
    obtain ⟨h1, h2⟩ := hm k B g1
    exact ⟨B, A, cap, h1, g2, g3, by rw [h2]; exact g4⟩
  | ptr k off => cases hp
  | eptr k i off ver => cases he
  | fn f cap =>
    obtain ⟨vs, h1, h2⟩ := hv
    refine ⟨vs, h1, All2.of h2.length fun i c u hc hu => ?_⟩
    obtain ⟨u', hu', hcu⟩ := h2.get hc
    rw [hu] at hu'
    cases hu'
    cases c with
    | ptr k off =>
      have : k ∈ ptrKey (.fn f cap) := List.mem_flatMap.2 ⟨.ptr k off, List.mem_of_getElem? hc, by simp⟩
      rw [hp] at this
      cases this
    | cptr x off => exact hcu
    | _ => exact hcu.elim
  | _ => exact hv
theorem RC.ren {n1 : Nat} {κ' κ2 : Place} {L' L2 : Look} {ρ : Nat → Nat} (hm : ∀ j B, L'.m j = some B → L2.m (ρ j) = some B ∧ κ2.blk (ρ j) = κ'.blk j) {c : PV} {v : Value} (hv : RC C n1 id κ' I L' w c v) : RC C n1 ρ κ2 I L2 w c v := by
  cases c with
  | ref k off len ver => exact V1.ren (I := I) (w := w) hm (c := .ref k off len ver) rfl rfl hv
  | _ => exact hv
theorem RV.ren {n1 : Nat} {κ' κ2 : Place} {L' L2 : Look} {ρ : Nat → Nat} (hm : ∀ j B, L'.m j = some B → L2.m (ρ j) = some B ∧ κ2.blk (ρ j) = κ'.blk j) {c : PV} {v : Value} (hv : RV C n1 id κ' I L' w c v) : RV C n1 ρ κ2 I L2 w c v := by
  cases c with
  | agg cs =>
    obtain ⟨us, h1, h2⟩ := hv
    exact ⟨us, h1, h2.mono fun a b hab => RC.ren hm hab⟩
  | undef => exact RC.ren (C := C) (n1 := n1) (I := I) (w := w) (c := .undef) (v := v) hm hv
  | skip => exact RC.ren (C := C) (n1 := n1) (I := I) (w := w) (c := .skip) (v := v) hm hv
  | tup x => exact RC.ren (C := C) (n1 := n1) (I := I) (w := w) (c := .tup x) (v := v) hm hv
  | nil => exact RC.ren (C := C) (n1 := n1) (I := I) (w := w) (c := .nil) (v := v) hm hv
  | int k n => exact RC.ren (C := C) (n1 := n1) (I := I) (w := w) (c := .int k n) (v := v) hm hv
  | bool b => exact RC.ren (C := C) (n1 := n1) (I := I) (w := w) (c := .bool b) (v := v) hm hv
  | str s => exact RC.ren (C := C) (n1 := n1) (I := I) (w := w) (c := .str s) (v := v) hm hv
  | arr s x => exact RC.ren (C := C) (n1 := n1) (I := I) (w := w) (c := .arr s x) (v := v) hm hv
  | oarr s x => exact RC.ren (C := C) (n1 := n1) (I := I) (w := w) (c := .oarr s x) (v := v) hm hv
  | ref k o l ver => exact RC.ren (C := C) (n1 := n1) (I := I) (w := w) (c := .ref k o l ver) (v := v) hm hv
  | ptr k o => exact RC.ren (C := C) (n1 := n1) (I := I) (w := w) (c := .ptr k o) (v := v) hm hv
  | eptr k i o ver => exact RC.ren (C := C) (n1 := n1) (I := I) (w := w) (c := .eptr k i o ver) (v := v) hm hv
  | cptr x o => exact RC.ren (C := C) (n1 := n1) (I := I) (w := w) (c := .cptr x o) (v := v) hm hv
  | optr x => exact RC.ren (C := C) (n1 := n1) (I := I) (w := w) (c := .optr x) (v := v) hm hv
  | fn g x => exact RC.ren (C := C) (n1 := n1) (I := I) (w := w) (c := .fn g x) (v := v) hm hv
end
end Go.AI
/- A call, for its caller. -/
namespace Go.AI
open Go Go.RowKit
section
variable {C : Cfg} {good : TypeId → Bool}
/-- What is told of a call whose arguments were handed on. -/
structure Met (C : Cfg) (κ κc κ' : Place) (I I' : Nat → Prop) (L Lc L' L2 : Look) (w w' : World) (ρb ρ : Nat → Nat) (hb hm : Nat → Nat → Prop) : Prop where
  /-- the handed boxes and blocks: the callee's name, the caller's -/
  cb : ∀ p, (Lc.b p).isSome → ∃ k, hb p k
  cm : ∀ j B, Lc.m j = some B → ∃ k, hm j k ∧ L.m k = some B ∧ B.froz = false
  b1 : ∀ p k, hb p k → (L.b k).isSome ∧ (Lc.b p).isSome ∧ κc.box p = κ.box k ∧ ρb p = k
  m1 : ∀ j k, hm j k → κc.blk j = κ.blk k ∧ ρ j = k ∧ (Lc.m j).isSome
  ob : ∀ p, (L'.b p).isSome → ∃ k, hb p k
  om : ∀ j, (L'.m j).isSome → (∃ k, hm j k) ∨ L.m (ρ j) = none
  oc : ∀ p cs, L'.b p = some cs → ∀ c ∈ cs, ptrKey c = [] ∧ eptrKey c = []
  inj : ∀ j j', (L'.m j).isSome → (L'.m j').isSome → ρ j = ρ j' → j = j'
  lb : ∀ k, (∃ p cs, L'.b p = some cs ∧ ρb p = k ∧ L2.b k = some (cs.map (renC ρ))) ∨ ((∀ p, (L'.b p).isSome → ρb p ≠ k) ∧ L2.b k = L.b k)
  lm : ∀ k, (∃ j B, L'.m j = some B ∧ ρ j = k ∧ L2.m k = some B) ∨ ((∀ j, (L'.m j).isSome → ρ j ≠ k) ∧ L2.m k = L.m k)
open Classical in
noncomputable def Met.place (κ κ' : Place) (L' : Look) (ρ : Nat → Nat) : Place := ⟨κ.box, fun k => if h : ∃ j, (L'.m j).isSome ∧ ρ j = k then κ'.blk h.choose else κ.blk k⟩
variable {κ κc κ' : Place} {I I' : Nat → Prop} {L Lc L' L2 : Look} {w w' : World} {ρb ρ : Nat → Nat} {hb hm : Nat → Nat → Prop}
theorem Met.place_in (M : Met C κ κc κ' I I' L Lc L' L2 w w' ρb ρ hb hm) {j : Nat} (hj : (L'.m j).isSome) : (Met.place κ κ' L' ρ).blk (ρ j) = κ'.blk j := by
  have h : ∃ i, (L'.m i).isSome ∧ ρ i = ρ j := ⟨j, hj, rfl⟩
  have e : (Met.place κ κ' L' ρ).blk (ρ j) = κ'.blk h.choose := dif_pos h
  rw [e, M.inj _ _ h.choose_spec.1 hj h.choose_spec.2]
theorem Met.place_out {k : Nat} (h : ∀ j, (L'.m j).isSome → ρ j ≠ k) : (Met.place κ κ' L' ρ).blk k = κ.blk k := dif_neg fun ⟨j, h1, h2⟩ => h j h1 h2
theorem Met.ren (M : Met C κ κc κ' I I' L Lc L' L2 w w' ρb ρ hb hm) {j : Nat} {B : Blk} (hj : L'.m j = some B) : L2.m (ρ j) = some B ∧ (Met.place κ κ' L' ρ).blk (ρ j) = κ'.blk j := by
  refine ⟨?_, M.place_in (by rw [hj]; rfl)⟩
  rcases M.lm (ρ j) with ⟨i, B', h1, h2, h3⟩ | ⟨h1, _⟩
  · have := M.inj i j (by rw [h1]; rfl) (by rw [hj]; rfl) h2
    subst this
    rw [hj] at h1
    rw [h3, h1]
  · exact absurd rfl (h1 j (by rw [hj]; rfl))
theorem Met.left (M : Met C κ κc κ' I I' L Lc L' L2 w w' ρb ρ hb hm) (h : Heap C κ I L w) (hc : Heap C κ' I' L' w') (hg : Goes C κc κ' I I' Lc L' w w') (hs : Since κc κ' I I' Lc L' w w') : Left C κ (Met.place κ κ' L' ρ) I I' L L2 w w' := by
  -- the callee's boxes lie where the caller's lay
  have boxat : ∀ p k, hb p k → (L'.b p).isSome → κ'.box p = κ.box k := fun p k hpk _ => by
    obtain ⟨_, h2, h3, _⟩ := M.b1 p k hpk
    rw [(hg.box p h2).2, h3]
  have boxold : ∀ k, (L2.b k).isSome → (L.b k).isSome := fun k hk => by
    rcases M.lb k with ⟨p, cs, h1, h2, _⟩ | ⟨_, h2⟩
    · obtain ⟨k', hp⟩ := M.ob p (by rw [h1]; rfl)
      obtain ⟨h3, _, _, h4⟩ := M.b1 p k' hp
      rw [h4] at h2
      exact h2 ▸ h3
    · rw [h2] at hk; exact hk
  have boxnew : ∀ k, (L.b k).isSome → (L2.b k).isSome := fun k hk => by
    rcases M.lb k with ⟨p, cs, _, _, h3⟩ | ⟨_, h2⟩
    · rw [h3]; rfl
    · rw [h2]; exact hk
  -- a place of the caller's that wasn't handed on
  have kept : ∀ i, i < w.heap.size → (∀ p k, hb p k → κ.box k ≠ i) → (∀ j k B a, hm j k → L.m k = some B → (κ.blk k).1 = some a → a.block ≠ i) → w'.heap[i]? = w.heap[i]? := fun i hi h1 h2 => by
    refine hs.keep i hi (fun p hp => ?_) fun j B a hB _ ha => ?_
    · obtain ⟨k, hpk⟩ := M.cb p hp
      rw [(M.b1 p k hpk).2.2.1]
      exact h1 p k hpk
    · obtain ⟨k, hjk, hL, _⟩ := M.cm j B hB
      rw [(M.m1 j k hjk).1] at ha
      exact h2 j k B a hjk hL ha
  have notnew : ∀ i, i < w.heap.size → ¬ I i → (∀ j k B a, hm j k → L.m k = some B → (κ.blk k).1 = some a → a.block ≠ i) → ¬ I' i := fun i hi hn h2 hi' => by
    rcases hs.new i hi' with h3 | h3 | ⟨j, B, a, hB, _, ha, e⟩
    · exact hn h3
    · omega
    · obtain ⟨k, hjk, hL, _⟩ := M.cm j B hB
      rw [(M.m1 j k hjk).1] at ha
      exact h2 j k B a hjk hL ha e
  -- blocks that were handed on are not frozen
  have hand : ∀ j k, hm j k → ∃ B, L.m k = some B ∧ B.froz = false ∧ Lc.m j = some B ∧ ρ j = k ∧ (L'.m j).isSome := fun j k hjk => by
    obtain ⟨_, e, hs'⟩ := M.m1 j k hjk
    obtain ⟨B, hB⟩ := Option.isSome_iff_exists.1 hs'
    obtain ⟨k', hjk', hL, hf⟩ := M.cm j B hB
    have e' := (M.m1 j k' hjk').2.1
    rw [e] at e'
    subst e'
    obtain ⟨B', hB', _⟩ := hg.blk j B hB
    exact ⟨B, hL, hf, hB, e, by rw [hB']; rfl⟩
  have goes : Goes C κ (Met.place κ κ' L' ρ) I I' L L2 w w' := {
    imm := hg.imm
    mem := hg.mem
    box := fun k hk => ⟨boxnew k hk, rfl⟩
    blk := fun k B hB => by
      rcases M.lm k with ⟨j, B', h1, h2, h3⟩ | ⟨h1, h2⟩
      · rcases M.om j (by rw [h1]; rfl) with ⟨k', hjk⟩ | h4
        · obtain ⟨B0, g1, g2, g3, g4, _⟩ := hand j k' hjk
          rw [g4] at h2
          subst h2
          rw [hB] at g1
          cases g1
          obtain ⟨B'', e1, e2, e3, e4⟩ := hg.blk j B g3
          rw [h1] at e1
          cases e1
          refine ⟨B', h3, e2, e3, fun e => ?_⟩
          have := M.place_in (j := j) (by rw [h1]; rfl)
          rw [g4] at this
          rw [this, e4 e, (M.m1 j k' hjk).1]
        · rw [h2, hB] at h4; cases h4
      · exact ⟨B, by rw [h2]; exact hB, rfl, Nat.le_refl _, fun _ => Met.place_out h1⟩ }
  have since : Since κ (Met.place κ κ' L' ρ) I I' L L2 w w' := {
    os := hs.os
    tape := hs.tape
    output := hs.output
    size := hs.size
    keep := fun i hi h1 h2 => kept i hi (fun p k hpk => h1 k (M.b1 p k hpk).1) fun j k B a hjk hL ha => by
      obtain ⟨B0, g1, g2, _⟩ := hand j k hjk
      rw [hL] at g1
      cases g1
      exact h2 k B a hL g2 ha
    new := fun i hi => by
      rcases hs.new i hi with h3 | h3 | ⟨j, B, a, hB, _, ha, e⟩
      · exact .inl h3
      · exact .inr (.inl h3)
      · obtain ⟨k, hjk, hL, hf⟩ := M.cm j B hB
        rw [(M.m1 j k hjk).1] at ha
        exact .inr (.inr ⟨k, B, a, hL, hf, ha, e⟩)
    box := fun k hk => .inl (boxold k hk)
    blk := fun k B a hB hf ha => by
      rcases M.lm k with ⟨j, B', h1, h2, h3⟩ | ⟨h1, h2⟩
      · rw [hB] at h3
        cases h3
        have := M.place_in (j := j) (by rw [h1]; rfl)
        rw [h2] at this
        rw [this] at ha
        rcases hs.blk j B a h1 hf ha with ⟨B0, a0, e1, e2, e3, e4⟩ | e1
        · obtain ⟨k', hjk, hL, _⟩ := M.cm j B0 e1
          obtain ⟨e5, e6, _⟩ := M.m1 j k' hjk
          rw [h2] at e6
          subst e6
          rw [e5] at e3
          exact .inl ⟨B0, a0, hL, e2, e3, e4⟩
        · exact .inr e1
      · rw [h2] at hB
        rw [Met.place_out h1] at ha
        exact .inl ⟨B, a, hB, hf, ha, rfl⟩ }
  refine ⟨{ imm := hc.imm, box := fun k cs hk => ?_, blk := fun k B hB => ?_, bb := fun k k' h1 h2 e => h.bb k k' (boxold k h1) (boxold k' h2) e, bm := fun k k' B a h1 h2 h3 => ?_, mm := fun k k' B B' a a' h1 h2 f1 f2 p1 p2 e => ?_ }, goes, since⟩
  · rcases M.lb k with ⟨p, cs', h1, h2, h3⟩ | ⟨h1, h2⟩
    · rw [hk] at h3
      cases h3
      obtain ⟨k', hpk⟩ := M.ob p (by rw [h1]; rfl)
      have e := (M.b1 p k' hpk).2.2.2
      rw [h2] at e
      subst e
      obtain ⟨c2, vs, e', c3, c4⟩ := hc.box p cs' h1
      have hat := boxat p k hpk (by rw [h1]; rfl)
      refine ⟨by rw [show (Met.place κ κ' L' ρ).box k = κ.box k from rfl, ← hat]; exact c2, vs, e', by rw [show (Met.place κ κ' L' ρ).box k = κ.box k from rfl, ← hat]; exact c3, ?_⟩
      refine All2.of (by rw [List.length_map]; exact c4.length) fun i x y hx hy => ?_
      rw [List.getElem?_map] at hx
      obtain ⟨c, hcx, rfl⟩ := Option.map_eq_some_iff.1 hx
      obtain ⟨y', hy', hcy⟩ := c4.get hcx
      rw [hy] at hy'
      cases hy'
      obtain ⟨o1, o2⟩ := M.oc p cs' h1 c (List.mem_of_getElem? hcx)
      exact V1.ren (fun j B hB => M.ren hB) o1 o2 hcy
    · rw [h2] at hk
      obtain ⟨c2, vs, e', c3, c4⟩ := h.box k cs hk
      have hlt := h.box_lt (k := k) (by rw [hk]; rfl)
      refine ⟨notnew _ hlt c2 fun j k' B a _ hL ha e => h.bm k k' B a (by rw [hk]; rfl) hL ha e.symm, vs, e', ?_, c4.mono fun x y hxy => V1.go goes hxy⟩
      rw [show (Met.place κ κ' L' ρ).box k = κ.box k from rfl, kept _ hlt (fun p k' hpk e => ?_) fun j k' B a _ hL ha e => h.bm k k' B a (by rw [hk]; rfl) hL ha e.symm]
      · exact c3
      · obtain ⟨b2, b3, _, b5⟩ := M.b1 p k' hpk
        have := h.bb k' k b2 (by rw [hk]; rfl) e
        subst this
        exact h1 p (hg.box p b3).1 b5
  · rcases M.lm k with ⟨j, B', h1, h2, h3⟩ | ⟨h1, h2⟩
    · rw [hB] at h3
      cases h3
      have := M.place_in (j := j) (by rw [h1]; rfl)
      rw [h2] at this
      exact (hc.blk j B h1).key this
    · rw [h2] at hB
      have hb0 := h.blk k B hB
      have far : B.froz = false → ∀ a, (κ.blk k).1 = some a → ∀ j k' B2 a2, hm j k' → L.m k' = some B2 → (κ.blk k').1 = some a2 → a2.block ≠ a.block := fun hf a ha j k' B2 a2 hjk hL ha2 e => by
        obtain ⟨B0, g1, g2, g3, g4, g5⟩ := hand j k' hjk
        rw [hL] at g1
        cases g1
        have := h.mm k' k B2 B a2 a hL hB g2 hf ha2 ha e
        subst this
        exact h1 j g5 g4
      refine hb0.go (Met.place_out h1) hg.imm hg.mem (fun a ha => ?_) fun a ha hf => ?_
      · cases hf : B.froz with
        | true => exact hg.mem _ ((hb0.own a ha).1 hf)
        | false => exact kept _ (h.blk_lt hB ha) (fun p k' hpk e => h.bm k' k B a (M.b1 p k' hpk).1 hB ha e) (far hf a ha)
      · exact notnew _ (h.blk_lt hB ha) ((hb0.own a ha).2 hf) (far hf a ha)
  · have hkold := boxold k h1
    have hklt := h.box_lt hkold
    rcases M.lm k' with ⟨j, B', g1, g2, g3⟩ | ⟨g1, g2⟩
    · rw [h2] at g3
      cases g3
      have := M.place_in (j := j) (by rw [g1]; rfl)
      rw [g2] at this
      rw [this] at h3
      show κ.box k ≠ a.block
      rcases M.lb k with ⟨p, cs', e1, e2, _⟩ | ⟨e1, e2⟩
      · obtain ⟨k2, hpk⟩ := M.ob p (by rw [e1]; rfl)
        have e := (M.b1 p k2 hpk).2.2.2
        rw [e2] at e
        subst e
        rw [← boxat p k hpk (by rw [e1]; rfl)]
        exact hc.bm p j B a (by rw [e1]; rfl) g1 h3
      · cases hf : B.froz with
        | true =>
          intro e
          have hi := ((hc.blk j B g1).own a h3).1 hf
          rw [← e] at hi
          obtain ⟨cs, hcs⟩ := Option.isSome_iff_exists.1 hkold
          refine notnew _ hklt (h.box k cs hcs).1 (fun j' k2 B2 a2 _ hL ha2 e' => ?_) hi
          exact h.bm k k2 B2 a2 hkold hL ha2 e'.symm
        | false =>
          intro e
          rcases hs.blk j B a g1 hf h3 with ⟨B0, a0, c1, c2, c3, c4⟩ | c1
          · obtain ⟨k2, hjk, hL, _⟩ := M.cm j B0 c1
            rw [(M.m1 j k2 hjk).1] at c3
            exact h.bm k k2 B0 a0 hkold hL c3 (e.trans c4.symm)
          · omega
    · rw [g2] at h2
      rw [Met.place_out g1] at h3
      exact h.bm k k' B a hkold h2 h3
  · have cross : ∀ {k k' : Nat} {B B' : Blk} {a a' : Addr} {j : Nat}, L'.m j = some B → ρ j = k → B.froz = false → (κ'.blk j).1 = some a → (∀ j, (L'.m j).isSome → ρ j ≠ k') → L.m k' = some B' → B'.froz = false → (κ.blk k').1 = some a' → a.block = a'.block → False := by
      intro k k' B B' a a' j g1 g2 f1 p1 g3 g4 f2 p2 e
      rcases hs.blk j B a g1 f1 p1 with ⟨B0, a0, c1, c2, c3, c4⟩ | c1
      · obtain ⟨k2, hjk, hL, hf⟩ := M.cm j B0 c1
        rw [(M.m1 j k2 hjk).1] at c3
        have := h.mm k2 k' B0 B' a0 a' hL g4 hf f2 c3 p2 (c4.trans e)
        subst this
        exact g3 j (by rw [g1]; rfl) (M.m1 j k2 hjk).2.1
      · have := h.blk_lt g4 p2
        omega
    rcases M.lm k with ⟨j, B1, g1, g2, g3⟩ | ⟨g1, g2⟩ <;> rcases M.lm k' with ⟨j', B1', g1', g2', g3'⟩ | ⟨g1', g2'⟩
    · rw [h1] at g3
      rw [h2] at g3'
      cases g3
      cases g3'
      have e1 := M.place_in (j := j) (by rw [g1]; rfl)
      have e2 := M.place_in (j := j') (by rw [g1']; rfl)
      rw [g2] at e1
      rw [g2'] at e2
      rw [e1] at p1
      rw [e2] at p2
      have := hc.mm j j' B B' a a' g1 g1' f1 f2 p1 p2 e
      rw [← g2, ← g2', this]
    · rw [h1] at g3
      cases g3
      rw [g2'] at h2
      rw [Met.place_out g1'] at p2
      have e1 := M.place_in (j := j) (by rw [g1]; rfl)
      rw [g2] at e1
      rw [e1] at p1
      exact (cross g1 g2 f1 p1 g1' h2 f2 p2 e).elim
    · rw [h2] at g3'
      cases g3'
      rw [g2] at h1
      rw [Met.place_out g1] at p1
      have e2 := M.place_in (j := j') (by rw [g1']; rfl)
      rw [g2'] at e2
      rw [e2] at p2
      exact (cross g1' g2' f2 p2 g1 h1 f1 p1 e.symm).elim
    · rw [g2] at h1
      rw [g2'] at h2
      rw [Met.place_out g1] at p1
      rw [Met.place_out g1'] at p2
      exact h.mm k k' B B' a a' h1 h2 f1 f2 p1 p2 e
end
end Go.AI
/- A call carried out. -/
namespace Go.AI
open Go Go.RowKit
section
variable {C : Cfg} {good : TypeId → Bool}
theorem Heap.same {κ : Place} {I : Nat → Prop} {L : Look} {w w' : World} (h : Heap C κ I L w) (ho : w'.os = w.os ∧ w'.tape = w.tape ∧ w'.output = w.output) (hs : w.heap.size ≤ w'.heap.size) (hk : ∀ i, i < w.heap.size → w'.heap[i]? = w.heap[i]?) : Left C κ κ I I L L w w' := by
  have hmem : ∀ i, I i → w'.heap[i]? = w.heap[i]? := fun i hi => hk i (h.imm i hi)
  have hg : Goes C κ κ I I L L w w' := ⟨fun _ h => h, hmem, fun _ h => ⟨h, rfl⟩, fun _ B h => ⟨B, h, rfl, Nat.le_refl _, fun _ => rfl⟩⟩
  refine ⟨{ imm := fun i hi => Nat.lt_of_lt_of_le (h.imm i hi) hs, box := fun k cs hk' => ?_, blk := fun k B hB => ?_, bb := h.bb, bm := h.bm, mm := h.mm }, hg, ⟨ho.1, ho.2.1, ho.2.2, hs, fun i hi _ _ => hk i hi, fun _ h => .inl h, fun _ h => .inl h, fun _ B a h1 h2 h3 => .inl ⟨B, a, h1, h2, h3, rfl⟩⟩⟩
  · obtain ⟨h2, vs, e, h3, h4⟩ := h.box k cs hk'
    exact ⟨h2, vs, e, by rw [hk _ (h.box_lt (by rw [hk']; rfl))]; exact h3, h4.mono fun a b hab => V1.go hg hab⟩
  · exact (h.blk k B hB).go rfl (fun _ h => h) hmem (fun a ha => hk _ (h.blk_lt hB ha)) fun a ha hf => ((h.blk k B hB).own a ha).2 hf
theorem Took.left {κ κ2 κ3 : Place} {I I2 I3 : Nat → Prop} {L L2 L3 : Look} {w w' : World} {gs : List Nat} (hl : Left C κ κ2 I I2 L L2 w w') (t : Took C κ2 κ3 I2 I3 L2 L3 w' gs) (hgs : ∀ g ∈ gs, w.heap.size ≤ g) : Left C κ κ3 I I3 L L3 w w' where
  heap := t.heap
  goes := hl.goes.trans t.goes
  since := {
    os := hl.since.os
    tape := hl.since.tape
    output := hl.since.output
    size := hl.since.size
    keep := hl.since.keep
    new := fun i hi => by
      rcases t.new i hi with h1 | h1
      · exact hl.since.new i h1
      · exact .inr (.inl (hgs i h1))
    box := fun j hj => by
      rcases t.box j hj with h1 | h1
      · rcases hl.since.box j h1 with h2 | h2
        · exact .inl h2
        · exact .inr (by rw [(t.goes.box j h1).2]; exact h2)
      · exact .inr (hgs _ h1)
    blk := fun j B a hB hf ha => by
      rcases t.blk j B a hB ha with ⟨h1, h2⟩ | h1
      · exact hl.since.blk j B a h1 hf h2
      · exact .inr (hgs _ h1) }
theorem frost_none (L : Look) {m : Map Blk} (hL : ∀ k, L.m k = Map.get k m) {k : Nat} (hk : Map.get k m = none) (ks : List Nat) : Map.get k (Map.puts (frost L ks) m) = none := by
  rw [puts_none _ _ fun p hp e => ?_]
  · exact hk
  · have key : ∀ (ks : List Nat) (p : Nat × Blk), p ∈ frost L ks → (L.m p.1).isSome := by
      intro ks
      induction ks with
      | nil => intro p hp; cases hp
      | cons j ks ih =>
        intro p hp
        rw [frost] at hp
        split at hp
        · rename_i B hB
          rcases List.mem_cons.1 hp with rfl | hp
          · rw [hB]; rfl
          · exact ih p hp
        · exact ih p hp
    have := key ks p hp
    rw [e, hL, hk] at this
    cases this
theorem RC.fresh {n1 : Nat} {ρ : Nat → Nat} {κ : Place} {I : Nat → Prop} {L : Look} {w : World} : ∀ {cs : List PV} {us : List Value}, All2 (RC C n1 ρ κ I L w) cs us → ∀ g ∈ owned cs us, n1 ≤ g
  | [], [], _, g, hg => by cases hg
  | c :: cs, u :: us, h, g, hg => by
    have ho := owned_append [c] [u] cs us rfl
    simp only [List.singleton_append] at ho
    rw [ho, List.mem_append] at hg
    rcases hg with hg | hg
    · cases c with
      | optr x =>
        obtain ⟨g', e, vs, rfl, h1, _⟩ := h.1
        simp only [owned, List.mem_singleton] at hg
        subst hg
        exact h1
      | oarr e xs =>
        obtain ⟨p, _, rfl, h1, _⟩ := h.1
        cases hp : p.1 with
        | none => rw [hp] at hg; cases hg
        | some a =>
          rw [hp] at hg
          simp only [owned, List.mem_singleton] at hg
          subst hg
          exact h1 a hp
      | _ => cases hg
    · exact RC.fresh h.2 g hg
  | [], _ :: _, h, _, _ => h.elim
  | _ :: _, [], h, _, _ => h.elim
theorem RV.cells {n1 : Nat} {ρ : Nat → Nat} {κ : Place} {I : Nat → Prop} {L : Look} {w : World} {c : PV} {u : Value} (h : RV C n1 ρ κ I L w c u) : All2 (RC C n1 ρ κ I L w) (cellsOf c) u.cells.toList := by
  have one : ∀ {c : PV}, RC C n1 ρ κ I L w c u → All2 (RC C n1 ρ κ I L w) (cellsOf c) u.cells.toList := by
    intro c hc
    rw [RC.cellsOf hc, cells_one (RC.oneCell hc)]
    exact ⟨hc, trivial⟩
  cases c with
  | agg cs => obtain ⟨us, rfl, h1⟩ := h; exact h1
  | undef => exact one (c := .undef) h
  | skip => exact one (c := .skip) h
  | tup x => exact one (c := .tup x) h
  | nil => exact one (c := .nil) h
  | int k n => exact one (c := .int k n) h
  | bool b => exact one (c := .bool b) h
  | str s => exact one (c := .str s) h
  | arr s x => exact one (c := .arr s x) h
  | oarr s x => exact one (c := .oarr s x) h
  | ref k o l ver => exact one (c := .ref k o l ver) h
  | ptr k o => exact one (c := .ptr k o) h
  | eptr k i o ver => exact one (c := .eptr k i o ver) h
  | cptr x o => exact one (c := .cptr x o) h
  | optr x => exact one (c := .optr x) h
  | fn g x => exact one (c := .fn g x) h
theorem RV.flat {n1 : Nat} {ρ : Nat → Nat} {κ : Place} {I : Nat → Prop} {L : Look} {w : World} : ∀ {cs : List PV} {us : List Value}, All2 (RV C n1 ρ κ I L w) cs us → All2 (RC C n1 ρ κ I L w) (cs.flatMap cellsOf) (us.flatMap (·.cells.toList))
  | [], [], _ => trivial
  | c :: cs, u :: us, h => by
    rw [List.flatMap_cons, List.flatMap_cons]
    exact (RV.cells h.1).append (RV.flat h.2)
  | [], _ :: _, h => h.elim
  | _ :: _, [], h => h.elim
/-- A call. -/
theorem call_ok (hK : Known C good) {call : Caller} (hS : Sound C call) : CallsOk C call := by
  intro S nt st a w o d f h hkind hd hdst next Q hnext
  obtain ⟨κ, I, hf⟩ := h
  unfold callOp at hd
  obtain ⟨q, hq, hd⟩ := Option.bind_eq_some_iff.1 hd
  obtain ⟨hn, hh, hd⟩ := Option.bind_eq_some_iff.1 hd
  obtain ⟨r, hr, hd⟩ := Option.bind_eq_some_iff.1 hd
  have hwho : ∃ (g : Operand) (xs : Array Operand) (ts : Array TypeId) (cap : List PV), o.op = .call { callee := .value g, args := xs, argTypes := ts } ∧ ev C st.look g = .fn q.1 cap ∧ q.2 = xs.toList.map (ev C st.look) ++ cap := by
    unfold callee at hq
    split at hq
    · rename_i g xs ts ho
      split at hq
      · rename_i gid cap hg
        split at hq
        · cases hq
          exact ⟨g, xs, ts, cap, ho, hg, rfl⟩
        · cases hq
      · cases hq
    · cases hq
  obtain ⟨g, xs, ts, cap, ho, hg, hargs⟩ := hwho
  have hgv := hf.ev hK.glob g
  rw [hg] at hgv
  obtain ⟨cvs, hgv, hcap⟩ := (show V1 C κ I st.look w (.fn q.1 cap) (a.eval g) by simpa only [VR, VA] using hgv)
  have hvals : All2 (VR C κ I st.look w) q.2 ((xs.map a.eval) ++ cvs).toList := by
    rw [hargs, Array.toList_append, Array.toList_map]
    refine All2.append (mapAll _ _ (fun x => hf.ev hK.glob x) _) (hcap.mono fun c v hcv => ?_)
    cases c with
    | ptr k off => exact hcv
    | cptr cs off => exact hcv
    | _ => exact hcv.elim
  obtain ⟨hr2, ⟨fn, hfn1, hfn2, hfn3⟩, hcalls⟩ := hS hr
  obtain ⟨rs, rb, rm⟩ := r
  have hrun : (execOp a.eval o).run C.P w = .ok (.enter q.1 (xs.map a.eval ++ cvs)) w := by
    unfold execOp
    have hnm : fn.name ≠ "runtime.NumGoroutine" := by simpa using hfn2
    have hbd : fn.body ≠ none := fun e => by rw [e] at hfn3; cases hfn3
    simp [ho, resolve, hgv, Deferred.ofValue, invoke, callFunc, hfn1, hnm, hbd]
  have hwr : wrote C q.1 (rs, rb, rm) = (rb, rm) := by
    unfold wrote
    split
    · rename_i he
      rw [List.isEmpty_iff.1 he] at hh
      obtain ⟨e1, e2, _, _⟩ := hand_none' hh
      exact (hr2 e1 e2).symm
    · rfl
  unfold callDo at hd
  rw [hwr] at hd
  split at hd
  rotate_left
  · cases hd
  rename_i hc
  simp only [Bool.and_eq_true] at hc
  obtain ⟨hfb, hfm, hho, hbk⟩ := hc
  cases hd
  by_cases hp : (plainRes rs && (C.io q.1).isEmpty) = true
  · -- plain results, nothing handed on
    have hp' := hp
    simp only [Bool.and_eq_true] at hp'
    obtain ⟨hpl, hemp⟩ := hp'
    rw [List.isEmpty_iff.1 hemp] at hh
    obtain ⟨e1, e2, e3, e4⟩ := hand_none' hh
    obtain ⟨hvs, hb', hm', hkb', hkm'⟩ := hn
    simp only at e1 e2 e3 e4
    subst e1 e2 e3 e4
    have hrb := hr2 rfl rfl
    cases hrb
    have hx : HandCtx κ κ (memOf [] []) ⟨hvs, [], [], [], []⟩ := ⟨fun _ _ h => (by cases h), fun _ _ h => (by cases h), fun _ _ h => (by cases h), fun _ _ h => (by cases h)⟩
    have hv1 := hand_ok (I1 := fun i => i < w.heap.size) hf.heap hf.heap.imm hh hx hvals (lent_any (fun cells => ⟨fun k _ cs hk => ⟨hf.heap.box_lt (by rw [hk]; rfl), fun k' _ B a hB ha => hf.heap.blk_lt hB ha⟩, fun k _ B a hB ha => hf.heap.blk_lt hB ha⟩) _ _)
    have hc := hcalls κ (fun i => i < w.heap.size) w _ ⟨fun _ h => h, fun _ _ h => (by cases h), fun _ _ h => (by cases h), fun _ _ h => (by cases h), fun _ _ _ _ h => (by cases h), fun _ _ _ _ _ _ h => (by cases h)⟩ hv1
    unfold Oper.wp
    rw [hrun, Oper.upon_enter]
    refine hc.mono fun e w' he => ?_
    obtain ⟨v, κ', I', rfl, _, _, hs, hres⟩ := he
    have hleft := hf.heap.same (w' := w') ⟨hs.os, hs.tape, hs.output⟩ hs.size fun i hi => hs.keep i hi (fun k hk => by cases hk) fun k B a hB => by cases hB
    refine hnext _ _ ⟨κ, I, hf.put hdst ?_ ?_⟩
    · have h2 := takeRes_plain C (C.own f (o.dst.getD 0)) (renK [] (o.dst.getD 0)) (64 * o.dst.getD 0) rs hpl
      simp only [memAfter, hp, if_true, h2, backB, backM, List.map_nil, List.append_nil, Map.puts]
      exact hleft
    · exact Res.plain hpl _ _ _ hres
  · -- the general case
    have hp : (plainRes rs && (C.io q.1).isEmpty) = false := by simpa using hp
    obtain ⟨hNb1, hNb2, hNm1, hNm2, hNl, hlB⟩ : (hn.kb.map (·.1)).Nodup ∧ (hn.kb.map (·.2)).Nodup ∧ (hn.km.map (·.1)).Nodup ∧ (hn.km.map (·.2)).Nodup ∧ (∀ p ∈ hn.km, p.2 ∉ lentM (C.io q.1) 0 q.2) ∧ lentB (C.io q.1) 0 q.2 = [] := by
      rw [hp] at hho
      cases hio : C.io q.1 with
      | nil =>
        rw [hio] at hho hh
        obtain ⟨_, _, e3, e4⟩ := hand_none' hh
        rw [e3, e4]
        refine ⟨List.nodup_nil, List.nodup_nil, List.nodup_nil, List.nodup_nil, fun p hp => (by cases hp), ?_⟩
        simpa [handOk] using hho
      | cons i l =>
        rw [hio] at hho
        simp only [handOk, Bool.and_eq_true, decide_eq_true_eq, List.all_eq_true, List.isEmpty_iff] at hho
        obtain ⟨h1, ⟨⟨⟨h2, h3⟩, h4⟩, h5⟩, h6⟩ := hho
        exact ⟨h2, h3, h4, h5, fun p hp hm => (by
          have := h6 p hp
          rw [List.contains_iff_mem.2 hm] at this
          cases this), h1⟩
    have F := hand_facts hh
    obtain ⟨I1, hl1, hfr⟩ := frost_all (t := st.t) (b := st.b) (lentM (C.io q.1) 0 q.2) (m := st.m) hf.heap
    have hLL : ∀ k B, st.look.m k = some B → k ∉ lentM (C.io q.1) 0 q.2 → Map.get k (Map.puts (frost st.look (lentM (C.io q.1) 0 q.2)) st.m) = some B := fun k B hB hk => by
      rw [puts_none (j := k) _ _ fun p hp e => hk (by have := frost_keys _ _ p hp; rw [e] at this; exact this)]
      exact hB
    let κc : Place := ⟨fun p => κ.box ((Map.get p hn.kb).getD 0), fun j => κ.blk ((Map.get j hn.km).getD 0)⟩
    have hx : HandCtx κ κc (memOf hn.b hn.m) hn := {
      b := fun p cs hm => get_mem (by rw [F.bn]; exact hNb1) hm
      m := fun j B hm => get_mem (by rw [F.mn]; exact hNm1) hm
      kb := fun p k hm => by
        show κ.box ((Map.get p hn.kb).getD 0) = _
        rw [get_mem hNb1 hm]; rfl
      km := fun j k hm => by
        show κ.blk ((Map.get j hn.km).getD 0) = _
        rw [get_mem hNm1 hm]; rfl }
    have hv1 := hand_ok (I1 := I1) hf.heap hl1.goes.imm hh hx hvals (lent_some q.2 0 (fun k hk B a hB ha => hfr k hk B a hB ha) hlB)
    have bget : ∀ p cs, (memOf hn.b hn.m).b p = some cs → (p, cs) ∈ hn.b := fun p cs h => mem_of_get h
    have mget : ∀ j B, (memOf hn.b hn.m).m j = some B → ∃ k, (j, k) ∈ hn.km ∧ st.look.m k = some B ∧ B.froz = false ∧ Map.get k (Map.puts (frost st.look (lentM (C.io q.1) 0 q.2)) st.m) = some B := fun j B h => by
      obtain ⟨k, h1, h2, h3⟩ := F.ms j B (mem_of_get h)
      exact ⟨k, h1, h2, h3, hLL k B h2 (hNl _ h1)⟩
    have hcs : Heap C κc I1 (memOf hn.b hn.m) w := {
      imm := hl1.heap.imm
      box := fun p cs hpc => by
        obtain ⟨k, cs0, x, h1, h2, h3, h4, h5, h6, h7, h8⟩ := F.bs p cs (bget p cs hpc)
        obtain ⟨_, vs, e, c3, c4⟩ := hf.heap.box k cs0 h2
        have hnI := (hl1.heap.box k cs0 h2).1
        rw [hx.kb p k h1]
        refine ⟨hnI, vs, e, c3, ?_⟩
        rw [← h4]
        exact handCells_ok hf.heap hl1.goes.imm h3 ⟨fun p cs hm => (by rw [h5] at hm; cases hm), fun j B hm => hx.m j B (h7 _ hm), fun p k hm => (by rw [h6] at hm; cases hm), fun j k hm => hx.km j k (h8 _ hm)⟩ c4
      blk := fun j B hB => by
        obtain ⟨k, h1, _, _, h4⟩ := mget j B hB
        exact (hl1.heap.blk k B h4).key (hx.km j k h1)
      bb := fun p p' h1 h2 e => by
        obtain ⟨cs, hc1⟩ := Option.isSome_iff_exists.1 h1
        obtain ⟨cs', hc2⟩ := Option.isSome_iff_exists.1 h2
        obtain ⟨k, cs0, x, g1, g2, _⟩ := F.bs p cs (bget p cs hc1)
        obtain ⟨k', cs0', x', g1', g2', _⟩ := F.bs p' cs' (bget p' cs' hc2)
        rw [hx.kb p k g1, hx.kb p' k' g1'] at e
        have := hf.heap.bb k k' (by rw [g2]; rfl) (by rw [g2']; rfl) e
        subst this
        exact snd_inj hNb2 g1 g1'
      bm := fun p j B y h1 h2 h3 => by
        obtain ⟨cs, hc1⟩ := Option.isSome_iff_exists.1 h1
        obtain ⟨k, cs0, x, g1, g2, _⟩ := F.bs p cs (bget p cs hc1)
        obtain ⟨k', g3, g4, _⟩ := mget j B h2
        rw [hx.km j k' g3] at h3
        rw [hx.kb p k g1]
        exact hf.heap.bm k k' B y (by rw [g2]; rfl) g4 h3
      mm := fun j j' B B' y y' h1 h2 f1 f2 p1 p2 e => by
        obtain ⟨k, g3, g4, _⟩ := mget j B h1
        obtain ⟨k', g3', g4', _⟩ := mget j' B' h2
        rw [hx.km j k g3] at p1
        rw [hx.km j' k' g3'] at p2
        have := hf.heap.mm k k' B B' y y' g4 g4' f1 f2 p1 p2 e
        subst this
        exact snd_inj hNm2 g3 g3' }
    have hc := hcalls κc I1 w _ hcs hv1
    unfold Oper.wp
    rw [hrun, Oper.upon_enter]
    refine hc.mono fun e w' he => ?_
    obtain ⟨v, κ', I', rfl, Hc, Gc, Sc, us, hus, hnd, hfree, rfl⟩ := he
    -- what comes back
    simp only [backOk, Bool.and_eq_true, decide_eq_true_eq, List.all_eq_true, Bool.or_eq_true, Option.isNone_iff_eq_none, List.isEmpty_iff] at hbk
    obtain ⟨k1, k2, k3, k4, k5⟩ := hbk
    generalize hD : o.dst.getD 0 = D at *
    let st2 : St := ⟨st.t, Map.puts (backB hn D rb) st.b, Map.puts (backM hn D rm) (Map.puts (frost st.look (lentM (C.io q.1) 0 q.2)) st.m)⟩
    have M : Met C κ κc κ' I1 I' (St.look ⟨st.t, st.b, Map.puts (frost st.look (lentM (C.io q.1) 0 q.2)) st.m⟩) (memOf hn.b hn.m) (memOf rb rm) st2.look w w' (renK hn.kb D) (renK hn.km D) (fun p k => (p, k) ∈ hn.kb) (fun j k => (j, k) ∈ hn.km) := {
      cb := fun p hp => by
        obtain ⟨cs, hcs⟩ := Option.isSome_iff_exists.1 hp
        obtain ⟨k, _, _, h1, _⟩ := F.bs p cs (bget p cs hcs)
        exact ⟨k, h1⟩
      cm := fun j B hB => by
        obtain ⟨k, h1, _, h3, h4⟩ := mget j B hB
        exact ⟨k, h1, h4, h3⟩
      b1 := fun p k hpk => by
        have hp1 : p ∈ hn.b.map (·.1) := by rw [F.bn]; exact List.mem_map.2 ⟨_, hpk, rfl⟩
        obtain ⟨⟨p', cs⟩, hm, rfl⟩ := List.mem_map.1 hp1
        obtain ⟨k', cs0, x, h1, h2, _⟩ := F.bs p' cs hm
        have e1 := get_mem hNb1 hpk
        have e2 := get_mem hNb1 h1
        simp only at e1 e2
        rw [e1] at e2
        cases e2
        refine ⟨by show (st.look.b k).isSome; rw [h2]; rfl, by rw [hx.b p' cs hm]; rfl, hx.kb p' k hpk, ?_⟩
        show (Map.get p' hn.kb).getD _ = k
        rw [e1]; rfl
      m1 := fun j k hjk => by
        have hj1 : j ∈ hn.m.map (·.1) := by rw [F.mn]; exact List.mem_map.2 ⟨_, hjk, rfl⟩
        obtain ⟨⟨j', B⟩, hm, rfl⟩ := List.mem_map.1 hj1
        refine ⟨hx.km j' k hjk, ?_, by rw [hx.m j' B hm]; rfl⟩
        show (Map.get j' hn.km).getD _ = k
        rw [get_mem hNm1 hjk]; rfl
      ob := fun p hp => by
        obtain ⟨cs, hcs⟩ := Option.isSome_iff_exists.1 hp
        obtain ⟨k, hk⟩ := Option.isSome_iff_exists.1 (k1 (p, cs) (mem_of_get hcs)).1
        exact ⟨k, mem_of_get hk⟩
      om := fun j hj => by
        obtain ⟨B, hB⟩ := Option.isSome_iff_exists.1 hj
        rcases k4 (j, B) (mem_of_get hB) with h1 | h1
        · obtain ⟨k, hk⟩ := Option.isSome_iff_exists.1 h1
          exact .inl ⟨k, mem_of_get hk⟩
        · exact .inr (frost_none st.look (fun _ => rfl) h1 _)
      oc := fun p cs hp c hc => (k1 (p, cs) (mem_of_get hp)).2 c hc
      inj := fun j j' h1 h2 e => ren_inj (f := renK hn.km D) (g := id) (m := rm) k3 h1 h2 e
      lb := fun k => by
        have hg := get_puts (k := k) (backB hn D rb) st.b k2
        cases hX : Map.get k (backB hn D rb) with
        | some cs =>
          obtain ⟨p, cs0, h1, h2, h3⟩ := ren_get k2 hX
          rw [hX] at hg
          exact .inl ⟨p, cs0, h1, h2, by rw [h3]; exact hg⟩
        | none =>
          rw [hX] at hg
          refine .inr ⟨fun p hp e => ?_, hg⟩
          obtain ⟨cs, hcs⟩ := Option.isSome_iff_exists.1 hp
          have := ren_put k2 hcs
          rw [e] at this
          have hX' : Map.get k (backB hn D rb) = some _ := this
          rw [hX] at hX'
          cases hX'
      lm := fun k => by
        have hg := get_puts (k := k) (backM hn D rm) (Map.puts (frost st.look (lentM (C.io q.1) 0 q.2)) st.m) k3
        cases hX : Map.get k (backM hn D rm) with
        | some B =>
          obtain ⟨j, B0, h1, h2, h3⟩ := ren_get (f := renK hn.km D) (g := id) (m := rm) k3 hX
          rw [hX] at hg
          subst h3
          exact .inl ⟨j, B0, h1, h2, hg⟩
        | none =>
          rw [hX] at hg
          refine .inr ⟨fun p hp e => ?_, hg⟩
          obtain ⟨cs, hcs⟩ := Option.isSome_iff_exists.1 hp
          have := ren_put (f := renK hn.km D) (g := id) (m := rm) k3 hcs
          rw [e] at this
          have hX' : Map.get k (backM hn D rm) = some _ := this
          rw [hX] at hX'
          cases hX' }
    have hleft := hl1.trans (M.left hl1.heap Hc Gc Sc)
    have hcv : All2 (RV C w.heap.size (renK hn.km D) (Met.place κ κ' (memOf rb rm) (renK hn.km D)) I' st2.look w') rs us := hus.mono fun x y hxy => RV.ren (fun j B hB => M.ren hB) hxy
    have hgs : ∀ g ∈ owned (rs.flatMap cellsOf) (us.flatMap (·.cells.toList)), w.heap.size ≤ g := RC.fresh (RV.flat hcv)
    have hfree2 : ∀ g ∈ owned (rs.flatMap cellsOf) (us.flatMap (·.cells.toList)), Free (Met.place κ κ' (memOf rb rm) (renK hn.km D)) st2.look g := fun g hg => by
      have hge := hgs g hg
      refine ⟨fun k hk e => ?_, fun k B y hB hy e => ?_⟩
      · rcases hleft.since.box k hk with h1 | h1
        · have hlt := hf.heap.box_lt h1
          have e2 := (hleft.goes.box k h1).2
          rw [e] at e2
          omega
        · rcases M.lb k with ⟨p, cs, g1, g2, g3⟩ | ⟨g1, g2⟩
          · obtain ⟨k', hpk⟩ := M.ob p (by rw [g1]; rfl)
            obtain ⟨e1, _, _, e4⟩ := M.b1 p k' hpk
            rw [g2] at e4
            subst e4
            have hlt := hl1.heap.box_lt e1
            have : (Met.place κ κ' (memOf rb rm) (renK hn.km D)).box k = κ.box k := rfl
            rw [this] at e
            omega
          · rw [g2] at hk
            have hlt := hl1.heap.box_lt hk
            have : (Met.place κ κ' (memOf rb rm) (renK hn.km D)).box k = κ.box k := rfl
            rw [this] at e
            omega
      · rcases M.lm k with ⟨j, B', g1, g2, g3⟩ | ⟨g1, g2⟩
        · rw [hB] at g3
          cases g3
          have := M.place_in (j := j) (by rw [g1]; rfl)
          rw [g2] at this
          rw [this] at hy
          exact (hfree g hg).2 j B y g1 hy e
        · rw [g2] at hB
          rw [Met.place_out g1] at hy
          have hlt := hl1.heap.blk_lt hB hy
          omega
    have hkeys : NoKeys st2 (takeRes C (C.own f D) (renK hn.km D) (64 * D) rs).2 := by
      refine ⟨fun p hp => ?_, fun p hp => ?_⟩
      · have hfp := Option.isNone_iff_eq_none.1 (List.all_eq_true.1 hfb p hp)
        rcases M.lb p.1 with ⟨p', cs, g1, g2, g3⟩ | ⟨_, g2⟩
        · obtain ⟨k', hpk⟩ := M.ob p' (by rw [g1]; rfl)
          obtain ⟨e1, _, _, e4⟩ := M.b1 p' k' hpk
          rw [g2] at e4
          rw [← e4] at e1
          have e1 : (st.look.b p.1).isSome := e1
          rw [hfp] at e1
          cases e1
        · exact g2.trans hfp
      · have hfp := Option.isNone_iff_eq_none.1 (List.all_eq_true.1 hfm p hp)
        have hg := get_puts (k := p.1) (backM hn D rm) (Map.puts (frost st.look (lentM (C.io q.1) 0 q.2)) st.m) k3
        rw [k5 p hp] at hg
        exact hg.trans (frost_none st.look (fun _ => rfl) hfp _)
    obtain ⟨κ3, I3, t, hv3⟩ := takeRes_ok (st := st2) (C.own f D) hleft.heap hcv hnd hfree2 hkeys
    have hma : memAfter st { v := (takeRes C (C.own f D) (renK hn.km D) (64 * D) rs).1, wb := backB hn D rb ++ (takeRes C (C.own f D) (renK hn.km D) (64 * D) rs).2.1, wm := (if (plainRes rs && (C.io q.1).isEmpty) = true then [] else frost st.look (lentM (C.io q.1) 0 q.2)) ++ (backM hn D rm ++ (takeRes C (C.own f D) (renK hn.km D) (64 * D) rs).2.2) } = addBM st2 (takeRes C (C.own f D) (renK hn.km D) (64 * D) rs).2.1 (takeRes C (C.own f D) (renK hn.km D) (64 * D) rs).2.2 := by
      simp only [memAfter, addBM, hp, Bool.false_eq_true, if_false, puts_append, st2]
    have hl3 := Took.left hleft t hgs
    refine hnext _ _ ⟨κ3, I3, hf.put hdst ?_ ?_⟩
    · rw [hma]; exact hl3
    · rw [hma]; exact hv3
end
end Go.AI
/- The interpreter is right: a call that it carries out, Go carries out so. -/
namespace Go.AI
open Go Go.RowKit
/-- All that is asked of the tables. -/
structure Ready (C : Cfg) (good : TypeId → Bool) : Prop extends Codes C good where
  ext : ∀ {f : FuncId} {args : List PV} {b : Map (List PV)} {m : Map Blk} {r : List PV × Map (List PV) × Map Blk}, C.ok f = false → C.ext f args b m = some r → SoundAt C f args b m r
section
variable {C : Cfg} {good : TypeId → Bool}
theorem calls_all (hR : Ready C good) (hD : ∀ call, CallsOk C call → DrawsOk C good call) : ∀ n, CallsOk C (callN C n)
  | 0 => call_ok hR.toKnown (call := callN C 0) fun {f args b m r} h => by cases h
  | n + 1 => call_ok hR.toKnown (run_ok hR.toCodes (calls_all hR hD n) (hD _ (calls_all hR hD n)) hR.ext)
theorem sound (hR : Ready C good) (hD : ∀ call, CallsOk C call → DrawsOk C good call) : Sound C (call C) := by
  intro f args b m r h
  obtain ⟨n, hn⟩ := (call_some C).1 h
  cases n with
  | zero => cases hn
  | succ n => exact run_ok hR.toCodes (calls_all hR hD n) (hD _ (calls_all hR hD n)) hR.ext hn
end
end Go.AI
/- The type table and the functions, checked. -/
namespace Go.AI
open Go Go.RowKit
def krB : PV → Value → Bool
  | .int k n, .int k' n' => decide (k = k') && decide (n = n')
  | .bool b, .bool b' => b == b'
  | .str s, .string s' => decide (s.data.toList = s'.data.toList)
  | .nil, .slice none 0 0 => true
  | _, _ => false
theorem krB_ok {c : PV} {v : Value} (h : krB c v = true) (I : Nat → Prop) (w : World) : KR I w c v := by
  unfold krB at h
  split at h
  · simp only [Bool.and_eq_true, decide_eq_true_eq] at h
    obtain ⟨rfl, rfl⟩ := h
    simp only [KR]
  · have := eq_of_beq h
    subst this
    simp only [KR]
  · rename_i s s'
    simp only [decide_eq_true_eq] at h
    have : s = s' := by
      cases s with
      | mk d =>
        cases s' with
        | mk d' =>
          have : d = d' := Array.toList_inj.1 h
          rw [this]
    subst this
    simp only [KR]
  · simp only [KR]
  · cases h
def zeroB : List PV → List Value → Bool
  | [], [] => true
  | c :: cs, v :: vs => ((match c with | .undef => v.oneCell' | _ => krB c v)) && zeroB cs vs
  | _, _ => false
theorem zeroB_ok : ∀ {cs : List PV} {vs : List Value}, zeroB cs vs = true → All2 (fun c v => (c = PV.undef ∧ v.oneCell' = true) ∨ ∀ I w, KR I w c v) cs vs
  | [], [], _ => trivial
  | c :: cs, v :: vs, h => by
    simp only [zeroB, Bool.and_eq_true] at h
    refine ⟨?_, zeroB_ok h.2⟩
    have h1 := h.1
    split at h1
    · exact .inl ⟨rfl, h1⟩
    · exact .inr (krB_ok h1)
  | [], _ :: _, h => by cases h
  | _ :: _, [], h => by cases h
section
variable (C : Cfg) (good : TypeId → Bool)
def fieldB (t : TypeId) (fs : Array Field) (i : Nat) : Bool := match fs[i]?, (C.ty t).offs[i]? with
  | some f, some o => decide (f.offset = o) && good f.type && decide ((C.ty t).fagg[i]? = some (C.ty f.type).agg) && match C.P.info? f.type with
    | some j => decide (j.size ≠ 0) && decide ((C.ty t).fsz[i]? = some j.size)
    | none => false
  | _, _ => false
def tokB (t : TypeId) : Bool := match C.P.info? t, C.P.underlying t with
  | some i, some d => decide (i.size = (C.ty t).sz) && decide (i.bytes = (C.ty t).bytes) &&
    ((C.ty t).agg == match d with | .struct _ | .array _ _ => true | _ => false) &&
    (!(C.ty t).slc || match d with | .slice e => decide (e = (C.ty t).elem) && good (C.ty t).elem | _ => false) &&
    (match (C.ty t).alen with | none => true | some n => match d with | .array m e => decide (m = n) && decide (e = (C.ty t).elem) && good (C.ty t).elem && decide ((C.ty t).sz = n * (C.ty (C.ty t).elem).sz) | _ => false) &&
    (match (C.ty t).offs with | [] => true | _ => match d with | .struct fs => (List.range (C.ty t).offs.length).all (fieldB C good t fs) | _ => false) &&
    (match (C.ty t).ik with | none => true | some k => match d with | .int k' => decide (k = k') | _ => false) &&
    (!(C.ty t).st || match d with | .string => true | _ => false) &&
    (decide ((C.ty t).zero.length ≠ (C.ty t).sz) || match i.zero with | some z => zeroB (C.ty t).zero z.cells.toList | none => false)
  | _, _ => false
end
section
variable {C : Cfg} {good : TypeId → Bool}
theorem tokB_ok {t : TypeId} (h : tokB C good t = true) : TOk C good t := by
  unfold tokB at h
  split at h
  · rename_i i d hi hd
    simp only [Bool.and_eq_true, Bool.or_eq_true, Bool.not_eq_true', decide_eq_true_eq] at h
    obtain ⟨⟨⟨⟨⟨⟨⟨⟨h1, h2⟩, h3⟩, h4⟩, h5⟩, h6⟩, h7⟩, h8⟩, h9⟩ := h
    refine { info := ⟨i, hi, h1, h2⟩, und := ⟨d, hd, eq_of_beq h3⟩, slc := fun hs => ?_, alen := fun n hn => ?_, offs := fun j o hj => ?_, ik := fun k hk => ?_, st := fun hs => ?_, zero := fun hz => ?_ }
    · rcases h4 with h4 | h4
      · rw [h4] at hs; cases hs
      · split at h4
        · simp only [Bool.and_eq_true, decide_eq_true_eq] at h4
          exact ⟨by rw [hd, h4.1], h4.2⟩
        · cases h4
    · rw [hn] at h5
      simp only at h5
      split at h5
      · simp only [Bool.and_eq_true, decide_eq_true_eq] at h5
        obtain ⟨⟨⟨a1, a2⟩, a3⟩, a4⟩ := h5
        exact ⟨by rw [hd, a1, a2], a3, a4⟩
      · cases h5
    · cases ho : (C.ty t).offs with
      | nil => rw [ho] at hj; simp at hj
      | cons x xs =>
        rw [ho] at h6
        simp only at h6
        split at h6
        · rename_i fs
          have hjl : j < (x :: xs).length := by rw [ho] at hj; exact (List.getElem?_eq_some_iff.1 hj).1
          have hf := List.all_eq_true.1 h6 j (List.mem_range.2 hjl)
          unfold fieldB at hf
          rw [hj] at hf
          split at hf
          · rename_i f o' hf1 hf2
            cases hf2
            simp only [Bool.and_eq_true, decide_eq_true_eq] at hf
            obtain ⟨⟨⟨b1, b2⟩, b3⟩, b4⟩ := hf
            split at b4
            · rename_i jj hjj
              simp only [Bool.and_eq_true, decide_eq_true_eq] at b4
              exact ⟨fs, f, jj, hd, hf1, b1, hjj, b4.1, b4.2, b2, b3⟩
            · cases b4
          · cases hf
        · cases h6
    · rw [hk] at h7
      simp only at h7
      split at h7
      · simp only [decide_eq_true_eq] at h7
        rw [hd, h7]
      · cases h7
    · rcases h8 with h8 | h8
      · rw [h8] at hs; cases hs
      · split at h8
        · exact hd
        · cases h8
    · rcases h9 with h9 | h9
      · exact absurd hz h9
      · split at h9
        · rename_i z hz1
          exact ⟨i, z, hi, hz1, zeroB_ok h9⟩
        · cases h9
  · cases h
def isBoolD : Option TypeDesc → Bool
  | some .bool => true
  | _ => false
def isIntD : Option TypeDesc → Bool
  | some (.int _) => true
  | _ => false
def eqFieldB (C : Cfg) (fs : Array Field) (i : Nat) : Bool := match fs[i]? with
  | some f => decide (f.offset = i) && decide (f.name ≠ "_") && isIntD (C.P.underlying f.type)
  | none => true
def eqStB (C : Cfg) (t : TypeId) : Option TypeDesc → Bool
  | some (.struct fs) => !C.P.stoodInHeld t && !C.P.eqGuardType C.P.depth t && decide (fs.size = (C.ty t).sz) && (List.range fs.size).all (eqFieldB C fs)
  | _ => false
def eqB (C : Cfg) (t : TypeId) : Bool := (!(C.ty t).bl || isBoolD (C.P.underlying t)) && (!(C.ty t).eqi || eqStB C t (C.P.underlying t))
theorem eqB_ok {t : TypeId} (h : eqB C t = true) : EqOk C t := by
  simp only [eqB, Bool.and_eq_true, Bool.or_eq_true, Bool.not_eq_true'] at h
  obtain ⟨h1, h2⟩ := h
  refine ⟨fun hb => ?_, fun he => ?_⟩
  · rcases h1 with h1 | h1
    · rw [h1] at hb; cases hb
    · unfold isBoolD at h1
      split at h1
      · rename_i e; exact e
      · cases h1
  · rcases h2 with h2 | h2
    · rw [h2] at he; cases he
    · unfold eqStB at h2
      split at h2
      · rename_i fs e
        simp only [Bool.and_eq_true, Bool.not_eq_true', decide_eq_true_eq] at h2
        obtain ⟨⟨⟨a1, a2⟩, a3⟩, a4⟩ := h2
        refine ⟨fs, e, a1, a2, a3, fun i f hi => ?_⟩
        have hil : i < fs.size := (Array.getElem?_eq_some_iff.1 hi).1
        have hf := List.all_eq_true.1 a4 i (List.mem_range.2 hil)
        unfold eqFieldB at hf
        rw [hi] at hf
        simp only [Bool.and_eq_true, decide_eq_true_eq] at hf
        obtain ⟨⟨b1, b2⟩, b3⟩ := hf
        refine ⟨b1, b2, ?_⟩
        unfold isIntD at b3
        split at b3
        · rename_i k e; exact ⟨k, e⟩
        · cases b3
      · cases h2
/-- A function is known. -/
def fnOk (C : Cfg) (good : TypeId → Bool) (f : FuncId) : Bool := match C.P.funcs[f]? with
  | some fn => match fn.body with
    | some c => !(fn.name == "runtime.NumGoroutine") && codeOk C good f fn.ntmps c && resOk good fn.results.toList
    | none => false
  | none => false
theorem fnOk_ok {f : FuncId} (h : fnOk C good f = true) : ∃ fn c, C.P.funcs[f]? = some fn ∧ fn.body = some c ∧ (fn.name == "runtime.NumGoroutine") = false ∧ codeOk C good f fn.ntmps c = true ∧ resOk good fn.results.toList = true := by
  unfold fnOk at h
  split at h
  · rename_i fn hf
    split at h
    · rename_i c hc
      simp only [Bool.and_eq_true, Bool.not_eq_true'] at h
      exact ⟨fn, c, hf, hc, h.1.1, h.1.2, h.2⟩
    · cases h
  · cases h
/-- All that is asked of the tables, as lists. -/
theorem ready_of {gs : List TypeId} {fs : List FuncId} (hg : ∀ t, good t = true → t ∈ gs) (hf : ∀ f, C.ok f = true → f ∈ fs) (h1 : gs.all (fun t => tokB C good t && eqB C t) = true) (h2 : fs.all (fnOk C good) = true) (hgl : ∀ g, C.glob g = none)
    (hX : ∀ {f : FuncId} {args : List PV} {b : Map (List PV)} {m : Map Blk} {r : List PV × Map (List PV) × Map Blk}, C.ok f = false → C.ext f args b m = some r → SoundAt C f args b m r) : Ready C good where
  ty := fun t ht => by
    have := List.all_eq_true.1 h1 t (hg t ht)
    simp only [Bool.and_eq_true] at this
    exact tokB_ok this.1
  eq := fun t ht => by
    have := List.all_eq_true.1 h1 t (hg t ht)
    simp only [Bool.and_eq_true] at this
    exact eqB_ok this.2
  glob := hgl
  code := fun f hok => fnOk_ok (List.all_eq_true.1 h2 f (hf f hok))
  ext := hX
end
end Go.AI
/- Drawn regions: what an operation that writes nothing looks at. -/
namespace Go.AI
open Go Go.RowKit
def Blk.what (B : Blk) : Nat × TypeId × List (List PV) := (B.n, B.e, B.xs)
/-- Two states that are alike where a value points. -/
def Agree (L L' : Look) : PV → Prop
  | .ptr k _ => L.b k = L'.b k
  | .ref k _ _ _ | .eptr k _ _ _ => (L.m k).map Blk.what = (L'.m k).map Blk.what
  | _ => True
section
variable {C : Cfg} {L L' : Look}
theorem blk_congr {α : Type} {k : Nat} (h : (L.m k).map Blk.what = (L'.m k).map Blk.what) (f : Blk → Option α) (hf : ∀ B B' : Blk, B.what = B'.what → f B = f B') : (L.m k).bind f = (L'.m k).bind f := by
  cases h1 : L.m k with
  | none =>
    cases h2 : L'.m k with
    | none => rfl
    | some B' => rw [h1, h2] at h; cases h
  | some B =>
    cases h2 : L'.m k with
    | none => rw [h1, h2] at h; cases h
    | some B' =>
      rw [h1, h2] at h
      exact hf B B' (Option.some.inj h)
theorem what_eq {B B' : Blk} (h : B.what = B'.what) : B.n = B'.n ∧ B.e = B'.e ∧ B.xs = B'.xs := by
  simp only [Blk.what, Prod.mk.injEq] at h
  exact h
theorem loadAt_congr {t : TypeId} {p : PV} (h : Agree L L' p) : loadAt C L t p = loadAt C L' t p := by
  cases p with
  | ptr k off => simp only [Agree] at h; simp only [loadAt, h]
  | eptr k i off ver =>
    simp only [loadAt]
    rw [blk_congr h]
    intro B B' hB
    obtain ⟨h1, _, h3⟩ := what_eq hB
    rw [h1, h3]
  | _ => rfl
theorem indexAt_congr {t : TypeId} {i : Int} {p : PV} (h : Agree L L' p) : indexAt C L t i p = indexAt C L' t i p := by
  cases p with
  | ref k off len ver =>
    simp only [indexAt]
    split
    · refine blk_congr h _ fun B B' hB => ?_
      obtain ⟨h1, h2, _⟩ := what_eq hB
      rw [h1, h2]
    · rfl
  | _ => rfl
theorem sliceOf_congr {t : TypeId} {l h : Int} {p : PV} (ha : Agree L L' p) : sliceOf C L t p l h = sliceOf C L' t p l h := by
  cases p with
  | ref k off len ver =>
    simp only [sliceOf]
    split
    · refine blk_congr ha _ fun B B' hB => ?_
      obtain ⟨h1, h2, _⟩ := what_eq hB
      rw [h1, h2]
    · rfl
  | _ => rfl
theorem fill_congr {t : TypeId} : ∀ (l : List (Nat × Operand)) (cs : List PV), (∀ p ∈ l, ev C L p.2 = ev C L' p.2) → fill C L t l cs = fill C L' t l cs
  | [], _, _ => rfl
  | (i, x) :: l, cs, h => by
    have hx : ev C L x = ev C L' x := h (i, x) (by simp)
    have ih := fun cs => fill_congr (t := t) l cs fun p hp => h p (by simp [hp])
    simp only [fill, hx]
    congr 1
    funext p
    split
    · congr 1
      funext cs
      exact ih cs
    · rfl
/-- What writes nothing looks at its operands alone, and where they point. -/
theorem pureOp_congr {op : Op} (h : ∀ x ∈ op.operands, ev C L x = ev C L' x ∧ Agree L L' (ev C L x)) : pureOp C L op = pureOp C L' op := by
  cases op with
  | move x => simp only [pureOp, (h x (by simp [Op.operands])).1]
  | assign x => simp only [pureOp, (h x (by simp [Op.operands])).1]
  | pick c a b => simp only [pureOp, (h c (by simp [Op.operands])).1, (h a (by simp [Op.operands])).1, (h b (by simp [Op.operands])).1]
  | load t x =>
    obtain ⟨h1, h2⟩ := h x (by simp [Op.operands])
    simp only [pureOp, ← h1]
    exact loadAt_congr h2
  | nilCheck x => simp only [pureOp, (h x (by simp [Op.operands])).1]
  | fieldAddr t x n => simp only [pureOp, (h x (by simp [Op.operands])).1]
  | field t x n => simp only [pureOp, (h x (by simp [Op.operands])).1]
  | indexAddr t x i =>
    obtain ⟨h1, h2⟩ := h x (by simp [Op.operands])
    simp only [pureOp, ← h1, ← (h i (by simp [Op.operands])).1]
    congr 1
    funext j
    exact indexAt_congr h2
  | index t x i => simp only [pureOp, (h x (by simp [Op.operands])).1, (h i (by simp [Op.operands])).1]
  | slice t x lo hi mx =>
    cases mx with
    | some _ => rfl
    | none =>
      obtain ⟨h1, h2⟩ := h x (by cases lo <;> cases hi <;> simp [Op.operands])
      have hlo : bound C L 0 lo = bound C L' 0 lo := by
        cases lo with
        | none => rfl
        | some y => simp only [bound, (h y (by cases hi <;> simp [Op.operands])).1]
      have hhi : ∀ d, bound C L d hi = bound C L' d hi := fun d => by
        cases hi with
        | none => rfl
        | some y => simp only [bound, (h y (by cases lo <;> simp [Op.operands])).1]
      simp only [pureOp, ← h1, hlo, hhi]
      congr 1
      funext l
      congr 1
      funext n
      congr 1
      funext m
      exact sliceOf_congr h2
  | binOp op t x y ty => simp only [pureOp, (h x (by simp [Op.operands])).1, (h y (by simp [Op.operands])).1]
  | unOp op t x => cases op <;> simp only [pureOp, (h x (by simp [Op.operands])).1]
  | convert s t x => simp only [pureOp, (h x (by simp [Op.operands])).1]
  | extract x i => simp only [pureOp, (h x (by simp [Op.operands])).1]
  | build t parts =>
    simp only [pureOp]
    rw [fill_congr parts.toList _ fun p hp => (h p.2 ?_).1]
    obtain ⟨ps⟩ := parts
    simp only [Op.operands, List.map_toArray, List.mem_toArray]
    exact List.mem_map.2 ⟨p, hp, rfl⟩
  | makeFunc g b cap =>
    cases g with
    | func g =>
      have : cap.toList.map (ev C L) = cap.toList.map (ev C L') := List.map_congr_left fun x hx => (h x (by simp [Op.operands, Array.mem_toList_iff.1 hx])).1
      simp only [pureOp, this]
    | _ => rfl
  | call c =>
    obtain ⟨ce, xs, ts⟩ := c
    cases ce with
    | builtin b =>
      have hm : xs.toList.map (ev C L) = xs.toList.map (ev C L') := List.map_congr_left fun x hx => (h x (by simp [Op.operands, Call.operands, Array.mem_toList_iff.1 hx])).1
      cases b with
      | len =>
        simp only [pureOp]
        split
        · rename_i x t h1 h2
          have hx : ev C L x = ev C L' x := by
            have := hm
            rw [h1] at this
            simpa using this
          rw [hx]
        · rfl
      | min => simp only [pureOp, hm]
      | max => simp only [pureOp, hm]
      | _ => rfl
    | _ => rfl
  | _ => rfl
end
end Go.AI
/- Drawn regions: an operation looks at its operands and at memory. -/
namespace Go.AI
open Go Go.RowKit
section
variable {C : Cfg} {t t' : Nat → PV} {b : Nat → Option (List PV)} {m : Nat → Option Blk}
theorem keepC_t (c : PV) : keepC C ⟨t, b, m⟩ c = keepC C ⟨t', b, m⟩ c := by
  cases c with
  | fn f cap => cases cap <;> rfl
  | _ => rfl
theorem keepL_t : ∀ cs : List PV, keepL C ⟨t, b, m⟩ cs = keepL C ⟨t', b, m⟩ cs
  | [] => rfl
  | c :: cs => by simp only [keepL, keepC_t (t := t) (t' := t') c, keepL_t cs]
theorem keepRows_t (sz : Nat) : ∀ vs : List PV, keepRows C ⟨t, b, m⟩ sz vs = keepRows C ⟨t', b, m⟩ sz vs
  | [] => rfl
  | v :: vs => by simp only [keepRows, keepL_t (t := t) (t' := t'), keepRows_t sz vs]
theorem frost_t : ∀ ks : List Nat, frost ⟨t, b, m⟩ ks = frost ⟨t', b, m⟩ ks
  | [] => rfl
  | k :: ks => by simp only [frost, frost_t ks]
theorem elems_t (e : TypeId) (v : PV) : elems C ⟨t, b, m⟩ e v = elems C ⟨t', b, m⟩ e v := by cases v <;> rfl
theorem appendTo_t (d : Nat) (e : TypeId) (ys : List (List PV)) (v : PV) : appendTo C ⟨t, b, m⟩ d e ys v = appendTo C ⟨t', b, m⟩ d e ys v := by
  cases v with
  | nil => cases ys <;> simp only [appendTo]
  | _ => rfl
theorem storeAt_t (cs : List PV) (v : PV) : storeAt C ⟨t, b, m⟩ cs v = storeAt C ⟨t', b, m⟩ cs v := by
  cases v with
  | eptr k i off ver => simp only [storeAt, keepL_t (t := t) (t' := t'), frost_t (t := t) (t' := t')]
  | _ => rfl
theorem lendCap_t : ∀ cs : List PV, lendC.lendCap C ⟨t, b, m⟩ cs = lendC.lendCap C ⟨t', b, m⟩ cs
  | [] => rfl
  | c :: cs => by
    cases c with
    | ptr k off => simp only [lendC.lendCap, keepL_t (t := t) (t' := t'), lendCap_t cs]
    | cptr x off => simp only [lendC.lendCap, lendCap_t cs]
    | _ => rfl
theorem lendC_t (c : PV) : lendC C ⟨t, b, m⟩ c = lendC C ⟨t', b, m⟩ c := by
  cases c with
  | ptr k off => simp only [lendC, keepL_t (t := t) (t' := t')]
  | fn f cap => simp only [lendC, lendCap_t (t := t) (t' := t')]
  | _ => rfl
theorem lendL_t : ∀ cs : List PV, lendL C ⟨t, b, m⟩ cs = lendL C ⟨t', b, m⟩ cs
  | [] => rfl
  | c :: cs => by simp only [lendL, lendC_t (t := t) (t' := t') c, lendL_t cs]
theorem lend_t (v : PV) : lend C ⟨t, b, m⟩ v = lend C ⟨t', b, m⟩ v := by
  cases v with
  | agg cs => simp only [lend, lendL_t (t := t) (t' := t')]
  | _ => simp only [lend]; exact lendC_t _
theorem handC_t (j : Nat) (c : PV) : handC C ⟨t, b, m⟩ j c = handC C ⟨t', b, m⟩ j c := by
  cases c with
  | ref k off len ver => cases off <;> rfl
  | _ => simp only [handC, keepC_t (t := t) (t' := t')]
theorem handCells_t : ∀ (cs : List PV) (j : Nat), handCells C ⟨t, b, m⟩ j cs = handCells C ⟨t', b, m⟩ j cs
  | [], _ => rfl
  | c :: cs, j => by simp only [handCells, handC_t (t := t) (t' := t'), handCells_t cs]
theorem handV_t (p : Nat) (v : PV) : handV C ⟨t, b, m⟩ p v = handV C ⟨t', b, m⟩ p v := by
  cases v with
  | ptr k off => cases off with
    | zero => simp only [handV, handCells_t (t := t) (t' := t')]
    | succ n => rfl
  | ref k off len ver => simp only [handV, handC_t (t := t) (t' := t')]
  | _ => rfl
theorem hand_t (io : List Nat) : ∀ (vs : List PV) (p : Nat), hand C ⟨t, b, m⟩ io p vs = hand C ⟨t', b, m⟩ io p vs
  | [], _ => rfl
  | v :: vs, p => by simp only [hand, hand_t io vs, lend_t (t := t) (t' := t'), handV_t (t := t) (t' := t')]
theorem callDo_t (f : FuncId) (d : Nat) (q : FuncId × List PV) (h : Hand) (r : List PV × Map (List PV) × Map Blk) : callDo C ⟨t, b, m⟩ f d q h r = callDo C ⟨t', b, m⟩ f d q h r := by
  simp only [callDo, frost_t (t := t) (t' := t')]
  rfl
theorem memOp_t {d : Nat} {op : Op} (h : ∀ x ∈ op.operands, ev C ⟨t, b, m⟩ x = ev C ⟨t', b, m⟩ x) : memOp C ⟨t, b, m⟩ d op = memOp C ⟨t', b, m⟩ d op := by
  cases op with
  | alloc e => rfl
  | box e x => simp only [memOp, h x (by simp [Op.operands])]
  | store e x y => simp only [memOp, h x (by simp [Op.operands]), h y (by simp [Op.operands]), storeAt_t (t := t) (t' := t')]
  | makeSlice e x y => simp only [memOp, h x (by simp [Op.operands]), h y (by simp [Op.operands])]
  | buildSlice e n parts =>
    obtain ⟨ps⟩ := parts
    have h1 : (ps.map fun p => ev C ⟨t, b, m⟩ p.2) = ps.map fun p => ev C ⟨t', b, m⟩ p.2 := List.map_congr_left fun p hp => h p.2 (by
      simp only [Op.operands, List.map_toArray, List.mem_toArray]
      exact List.mem_map.2 ⟨p, hp, rfl⟩)
    have h2 : (ps.flatMap fun p => cellsOf (ev C ⟨t, b, m⟩ p.2)) = ps.flatMap fun p => cellsOf (ev C ⟨t', b, m⟩ p.2) := by
      have := congrArg (fun l => List.flatMap cellsOf l) h1
      simpa only [List.flatMap_map] using this
    simp only [memOp, h1, h2, keepRows_t (t := t) (t' := t'), frost_t (t := t) (t' := t')]
  | call c =>
    obtain ⟨ce, xs, ts⟩ := c
    cases ce with
    | builtin bb =>
      cases bb with
      | append =>
        simp only [memOp]
        split
        · rename_i s x ty tys h1 h2
          have h1 : xs = #[s, x] := by rw [← Array.toList_inj]; exact h1
          subst h1
          have e1 := h s (by simp [Op.operands, Call.operands])
          have e2 := h x (by simp [Op.operands, Call.operands])
          simp only [e1, e2, elems_t (t := t) (t' := t'), appendTo_t (t := t) (t' := t')]
        · rfl
      | _ => rfl
    | _ => rfl
  | _ => rfl
theorem callOp_t {call : Caller} {f : FuncId} {d : Nat} {op : Op} (h : ∀ x ∈ op.operands, ev C ⟨t, b, m⟩ x = ev C ⟨t', b, m⟩ x) : callOp C ⟨t, b, m⟩ call f d op = callOp C ⟨t', b, m⟩ call f d op := by
  have hc : callee C ⟨t, b, m⟩ op = callee C ⟨t', b, m⟩ op := by
    cases op with
    | call c =>
      obtain ⟨ce, xs, ts⟩ := c
      cases ce with
      | value g =>
        have e1 := h g (by simp [Op.operands, Call.operands])
        have e2 : xs.toList.map (ev C ⟨t, b, m⟩) = xs.toList.map (ev C ⟨t', b, m⟩) := List.map_congr_left fun x hx => h x (by simp [Op.operands, Call.operands, Array.mem_toList_iff.1 hx])
        simp only [callee, e1, e2]
      | _ => rfl
    | _ => rfl
  simp only [callOp, hc, hand_t (t := t) (t' := t'), callDo_t (t := t) (t' := t')]
theorem opW_t {call : Caller} {f : FuncId} {o : Oper} (h : ∀ x ∈ o.op.operands, ev C ⟨t, b, m⟩ x = ev C ⟨t', b, m⟩ x) : opW C ⟨t, b, m⟩ call f o = opW C ⟨t', b, m⟩ call f o := by
  unfold opW
  split
  · rw [pureOp_congr (L := ⟨t, b, m⟩) (L' := ⟨t', b, m⟩) fun x hx => ⟨h x hx, by
      generalize ev C ⟨t, b, m⟩ x = v
      cases v <;> first | rfl | trivial⟩]
  · exact memOp_t h
  · exact callOp_t h
end
end Go.AI
/- Drawn regions: two operations change places. -/
namespace Go.AI
open Go Go.RowKit
section
variable {C : Cfg} {call : Caller} {f : FuncId} {ops : Array Oper}
/-- One operation's step. -/
def step1 (C : Cfg) (call : Caller) (f : FuncId) (all : List Oper) (o : Oper) (st : St) : Option St := (guardOk all st.look o.guard).bind fun g => (if g then opW C st.look call f o else some { v := .skip }).bind fun a => some (st.after o.dst a)
theorem opsW_step (all : List Oper) (o : Oper) (l : List Oper) (st : St) : opsW C call f all (o :: l) st = (step1 C call f all o st).bind (opsW C call f all l) := by
  simp only [opsW, step1]
  cases guardOk all st.look o.guard with
  | none => rfl
  | some g =>
    simp only [Option.bind_some]
    cases (if g then opW C st.look call f o else some { v := .skip }) <;> rfl
theorem after_same {st st' : St} (h : st.look = st'.look) (d : Option Tmp) (a : Did) : (st.after d a).look = (st'.after d a).look := by
  have ht : ∀ t, (Map.get t st.t).getD .undef = (Map.get t st'.t).getD .undef := fun t => congrFun (congrArg Look.t h) t
  have hb : ∀ k, Map.get k st.b = Map.get k st'.b := fun k => congrFun (congrArg Look.b h) k
  have hm : ∀ k, Map.get k st.m = Map.get k st'.m := fun k => congrFun (congrArg Look.m h) k
  simp only [St.after, St.look, Look.mk.injEq]
  refine ⟨funext fun t => ?_, funext fun k => puts_congr _ hb k, funext fun k => puts_congr _ hm k⟩
  cases d with
  | none => exact ht t
  | some d =>
    simp only [putDst, get_put]
    split
    · rfl
    · exact ht t
theorem step1_same {all : List Oper} {o : Oper} {st st' r : St} (h : st.look = st'.look) (hr : step1 C call f all o st = some r) : ∃ r', step1 C call f all o st' = some r' ∧ r.look = r'.look := by
  simp only [step1] at hr ⊢
  rw [h] at hr
  obtain ⟨g, h1, h2⟩ := Option.bind_eq_some_iff.1 hr
  obtain ⟨a, h3, h4⟩ := Option.bind_eq_some_iff.1 h2
  cases h4
  exact ⟨_, by rw [h1, Option.bind_some, h3, Option.bind_some], after_same h _ _⟩
theorem opsW_same {all : List Oper} : ∀ (l : List Oper) {st st' r : St}, st.look = st'.look → opsW C call f all l st = some r → ∃ r', opsW C call f all l st' = some r' ∧ r.look = r'.look
  | [], st, st', r, h, hr => by cases hr; exact ⟨st', rfl, h⟩
  | o :: l, st, st', r, h, hr => by
    rw [opsW_step] at hr
    obtain ⟨s, h1, h2⟩ := Option.bind_eq_some_iff.1 hr
    obtain ⟨s', h3, h4⟩ := step1_same h h1
    obtain ⟨r', h5, h6⟩ := opsW_same l h4 h2
    exact ⟨r', by rw [opsW_step, h3, Option.bind_some]; exact h5, h6⟩
theorem after_t (st : St) (d : Option Tmp) (a : Did) (t : Nat) (h : ∀ e, d = some e → e ≠ t) : (st.after d a).look.t t = st.look.t t := by
  cases d with
  | none => rfl
  | some d =>
    show (Map.get t (Map.put d a.v st.t)).getD .undef = _
    rw [get_put, if_neg (h d rfl)]
    rfl
theorem guard_after {o : Oper} {st : St} {d : Option Tmp} {a : Did} (h : ∀ e, d = some e → e ∉ o.looksAt ops) : guardOk ops.toList (st.after d a).look o.guard = guardOk ops.toList st.look o.guard := by
  cases hg : o.guard with
  | none => rfl
  | some p =>
    obtain ⟨j, want⟩ := p
    simp only [guardOk, Array.getElem?_toList]
    cases ht : (ops[j]?).bind (·.dst) with
    | none => rfl
    | some t =>
      simp only [Option.map_some]
      rw [after_t st d a t fun e he hte => h e he (by subst hte; simp [Oper.looksAt, hg, ht])]
theorem ev_after {o : Oper} {st : St} {d : Option Tmp} {a : Did} (h : ∀ e, d = some e → e ∉ o.looksAt ops) : ∀ x ∈ o.op.operands, ev C (st.after d a).look x = ev C st.look x := by
  intro x hx
  cases x with
  | tmp t =>
    refine after_t st d a t fun e he hte => h e he ?_
    subst hte
    exact List.mem_append_left _ (List.mem_filterMap.2 ⟨.tmp e, by simpa using hx, rfl⟩)
  | _ => rfl
theorem swap_look {st : St} {dx dy : Option Tmp} {v : PV} {a : Did} (h : ∀ d, dx = some d → dy ≠ some d) : ((st.after dx { v }).after dy a).look = ((st.after dy a).after dx { v }).look := by
  simp only [St.after, St.look, Look.mk.injEq, Map.puts, and_true]
  refine funext fun t => ?_
  cases dx with
  | none => rfl
  | some x =>
    cases dy with
    | none => rfl
    | some y =>
      have hne : x ≠ y := fun e => h x rfl (by rw [e])
      simp only [putDst, get_put]
      by_cases h1 : y = t
      · rw [if_pos h1, if_neg (fun e => hne (e.trans h1.symm)), if_pos h1]
      · rw [if_neg h1, if_neg h1]
/-- What writes nothing goes ahead of another operation. -/
theorem pure_ahead {x y : Oper} {st s1 s2 : St} (hx : kindOf x.op = .pure) (hap : x.apart ops y = true) (hy1 : step1 C call f ops.toList y st = some s1) (hx1 : step1 C call f ops.toList x s1 = some s2) (hag : ∀ o ∈ x.op.operands, Agree st.look s1.look (ev C st.look o)) :
    ∃ r1 r2, step1 C call f ops.toList x st = some r1 ∧ step1 C call f ops.toList y r1 = some r2 ∧ s2.look = r2.look := by
  obtain ⟨p1, p2, p3⟩ := Oper.apart_spec hap
  simp only [step1] at hy1 hx1
  obtain ⟨gy, a1, a2⟩ := Option.bind_eq_some_iff.1 hy1
  obtain ⟨ay, a3, a4⟩ := Option.bind_eq_some_iff.1 a2
  cases a4
  obtain ⟨gx, b1, b2⟩ := Option.bind_eq_some_iff.1 hx1
  obtain ⟨ax, b3, b4⟩ := Option.bind_eq_some_iff.1 b2
  cases b4
  rw [guard_after p3] at b1
  have hax : (if gx then opW C st.look call f x else some { v := .skip }) = some ax ∧ ∃ v, ax = { v } := by
    cases gx with
    | false => simp only [Bool.false_eq_true, if_false, Option.some.injEq] at b3 ⊢; exact ⟨b3, _, b3.symm⟩
    | true =>
      simp only [if_true, opW, hx] at b3 ⊢
      rw [pureOp_congr (L := st.look) (L' := (st.after y.dst ay).look) fun o ho => ⟨(ev_after p3 o ho).symm, hag o ho⟩]
      obtain ⟨v, _, h2⟩ := Option.map_eq_some_iff.1 b3
      exact ⟨b3, v, h2.symm⟩
  obtain ⟨hax, v, rfl⟩ := hax
  refine ⟨st.after x.dst { v }, (st.after x.dst { v }).after y.dst ay, by simp only [step1]; rw [b1, Option.bind_some, hax, Option.bind_some], ?_, (swap_look p2).symm⟩
  simp only [step1]
  rw [guard_after p1, a1, Option.bind_some]
  have : opW C (st.after x.dst { v }).look call f y = opW C st.look call f y := opW_t (ev_after p1)
  rw [this, a3, Option.bind_some]
/-- Another operation goes ahead of what writes nothing. -/
theorem pure_behind {x y : Oper} {st s1 s2 : St} (hx : kindOf x.op = .pure) (hap : x.apart ops y = true) (hx1 : step1 C call f ops.toList x st = some s1) (hy1 : step1 C call f ops.toList y s1 = some s2) (hag : ∀ r1, step1 C call f ops.toList y st = some r1 → ∀ o ∈ x.op.operands, Agree st.look r1.look (ev C st.look o)) :
    ∃ r1 r2, step1 C call f ops.toList y st = some r1 ∧ step1 C call f ops.toList x r1 = some r2 ∧ s2.look = r2.look := by
  obtain ⟨p1, p2, p3⟩ := Oper.apart_spec hap
  have hx0 := hx1
  simp only [step1] at hx1 hy1
  obtain ⟨gx, b1, b2⟩ := Option.bind_eq_some_iff.1 hx1
  obtain ⟨ax, b3, b4⟩ := Option.bind_eq_some_iff.1 b2
  cases b4
  obtain ⟨gy, a1, a2⟩ := Option.bind_eq_some_iff.1 hy1
  obtain ⟨ay, a3, a4⟩ := Option.bind_eq_some_iff.1 a2
  cases a4
  have hv : ∃ v, ax = { v } := by
    cases gx with
    | false => simp only [Bool.false_eq_true, if_false, Option.some.injEq] at b3; exact ⟨_, b3.symm⟩
    | true =>
      simp only [if_true, opW, hx] at b3
      obtain ⟨v, _, h2⟩ := Option.map_eq_some_iff.1 b3
      exact ⟨v, h2.symm⟩
  obtain ⟨v, rfl⟩ := hv
  rw [guard_after p1] at a1
  have : opW C (st.after x.dst { v }).look call f y = opW C st.look call f y := opW_t (ev_after p1)
  rw [this] at a3
  have hy : step1 C call f ops.toList y st = some (st.after y.dst ay) := by
    simp only [step1]
    rw [a1, Option.bind_some, a3, Option.bind_some]
  refine ⟨_, (st.after y.dst ay).after x.dst { v }, hy, ?_, swap_look p2⟩
  have hag := hag _ hy
  simp only [step1]
  rw [guard_after p3, b1, Option.bind_some]
  have : (if gx then opW C (st.after y.dst ay).look call f x else some { v := .skip }) = some { v } := by
    cases gx with
    | false => simpa only [Bool.false_eq_true, if_false] using b3
    | true =>
      simp only [if_true, opW, hx] at b3 ⊢
      rw [← pureOp_congr (L := st.look) (L' := (st.after y.dst ay).look) fun o ho => ⟨(ev_after p3 o ho).symm, hag o ho⟩]
      exact b3
  rw [this, Option.bind_some]
/-- What is done adds to memory alone. -/
structure Adds (L : Look) (a : Did) : Prop where
  b : ∀ p ∈ a.wb, L.b p.1 = none
  m : ∀ p ∈ a.wm, L.m p.1 = none ∨ ∃ B, L.m p.1 = some B ∧ p.2.what = B.what
theorem puts_keep {α : Type} {β : Type} (w : α → β) {k : Nat} : ∀ (fr : Map α) (m : Map α) (u : α), Map.get k m = some u → (∀ p ∈ fr, p.1 = k → w p.2 = w u) → (Map.get k (Map.puts fr m)).map w = some (w u)
  | [], m, u, h, _ => by show (Map.get k m).map w = _; rw [h]; rfl
  | (j, v) :: r, m, u, h, hp => by
    simp only [Map.puts]
    by_cases e : j = k
    · have := hp (j, v) (by simp) e
      rw [puts_keep w r (Map.put j v m) v (by rw [get_put, if_pos e]) fun p hp' he => (hp p (by simp [hp']) he).trans this.symm, this]
    · exact puts_keep w r _ u (by rw [get_put, if_neg e]; exact h) fun p hp' he => hp p (by simp [hp']) he
theorem Adds.agree {st : St} {d : Option Tmp} {a : Did} (h : Adds st.look a) {v : PV} (hb : ∀ k ∈ ptrKey v, (st.look.b k).isSome) (hm : ∀ k ∈ refKey v ++ eptrKey v, (st.look.m k).isSome) : Agree st.look (st.after d a).look v := by
  have mm : ∀ k, (st.look.m k).isSome → (st.look.m k).map Blk.what = ((st.after d a).look.m k).map Blk.what := by
    intro k hk
    obtain ⟨B, hB⟩ := Option.isSome_iff_exists.1 hk
    rw [hB]
    refine (puts_keep Blk.what a.wm st.m B hB fun p hp he => ?_).symm
    rcases h.m p hp with h1 | ⟨B', h1, h2⟩
    · rw [he, hB] at h1; cases h1
    · rw [he, hB] at h1; cases h1; exact h2
  cases v with
  | ptr k off =>
    have hk := hb k (by simp [ptrKey])
    obtain ⟨cs, hcs⟩ := Option.isSome_iff_exists.1 hk
    have := puts_keep id a.wb st.b cs hcs fun p hp he => by
      have := h.b p hp
      rw [he, hcs] at this
      cases this
    show st.look.b k = Map.get k (Map.puts a.wb st.b)
    rw [hcs]
    simpa using this.symm
  | ref k off len ver => exact mm k (hm k (by simp [refKey]))
  | eptr k i off ver => exact mm k (hm k (by simp [eptrKey]))
  | _ => trivial
theorem frost_adds (L : Look) : ∀ (ks : List Nat), ∀ p ∈ frost L ks, ∃ B, L.m p.1 = some B ∧ p.2.what = B.what
  | [], _, h => by cases h
  | k :: ks, p, h => by
    rw [frost] at h
    split at h
    · rename_i B hB
      rcases List.mem_cons.1 h with rfl | h
      · exact ⟨B, hB, rfl⟩
      · exact frost_adds L ks p h
    · exact frost_adds L ks p h
end
end Go.AI
/- Drawn regions: which operations add to memory alone. -/
namespace Go.AI
open Go Go.RowKit
section
variable {C : Cfg} {call : Caller} {f : FuncId} {L : Look} {a : Did}
theorem call_adds {d : Nat} {op : Op} (ho : addsOnly C op = true) (h : callOp C L call f d op = some a) : Adds L a := by
  unfold callOp at h
  obtain ⟨q, hq, h⟩ := Option.bind_eq_some_iff.1 h
  obtain ⟨hn, _, h⟩ := Option.bind_eq_some_iff.1 h
  obtain ⟨r, _, h⟩ := Option.bind_eq_some_iff.1 h
  have hio : (C.io q.1).isEmpty = true := by
    unfold callee at hq
    split at hq
    · rename_i g xs ts
      split at hq
      · rename_i gid cap hg
        split at hq
        · rename_i hd
          cases hq
          cases g with
          | func g' =>
            simp only [ev, PV.fn.injEq] at hg
            obtain ⟨rfl, _⟩ := hg
            exact ho
          | _ => simpa [direct] using hd
        · cases hq
      · cases hq
    · cases hq
  have hw : wrote C q.1 r = ([], []) := by unfold wrote; rw [if_pos hio]
  unfold callDo at h
  rw [hw] at h
  split at h
  · rename_i hc
    simp only [Bool.and_eq_true] at hc
    cases h
    refine ⟨fun p hp => Option.isNone_iff_eq_none.1 (List.all_eq_true.1 hc.1 p ?_), fun p hp => ?_⟩
    · simpa only [backB, List.map_nil, List.nil_append] using hp
    · simp only [backM, List.map_nil, List.nil_append] at hp
      rcases List.mem_append.1 hp with hp | hp
      · split at hp
        · cases hp
        · exact .inr (frost_adds L _ p hp)
      · exact .inl (Option.isNone_iff_eq_none.1 (List.all_eq_true.1 hc.2.1 p hp))
  · cases h
theorem mem_adds {d : Nat} {op : Op} (ho : addsOnly C op = true) (hk : kindOf op = .mem) (h : memOp C L d op = some a) : Adds L a := by
  cases op with
  | alloc t =>
    simp only [memOp] at h
    split at h
    · rename_i hn
      cases h
      refine ⟨fun p hp => ?_, fun p hp => (by cases hp)⟩
      rw [List.mem_singleton] at hp
      rw [hp]
      exact Option.isNone_iff_eq_none.1 hn
    · cases h
  | box t x =>
    simp only [memOp] at h
    split at h
    · rename_i hn
      cases h
      refine ⟨fun p hp => ?_, fun p hp => (by cases hp)⟩
      rw [List.mem_singleton] at hp
      rw [hp]
      exact Option.isNone_iff_eq_none.1 hn.1
    · cases h
  | buildSlice t n parts =>
    simp only [memOp] at h
    split at h
    · rename_i hn
      obtain ⟨xs, _, h2⟩ := Option.bind_eq_some_iff.1 h
      cases h2
      refine ⟨fun p hp => (by cases hp), fun p hp => ?_⟩
      rcases List.mem_cons.1 hp with rfl | hp
      · exact .inl (Option.isNone_iff_eq_none.1 hn.2)
      · exact .inr (frost_adds L _ p hp)
    · cases h
  | makeSlice t x y =>
    simp only [memOp] at h
    split at h
    · split at h
      · rename_i hn
        cases h
        refine ⟨fun p hp => (by cases hp), fun p hp => ?_⟩
        rw [List.mem_singleton] at hp
        rw [hp]
        exact .inl (Option.isNone_iff_eq_none.1 hn.2.2.2.2)
      · cases h
    · cases h
  | store t x y => cases ho
  | call c =>
    obtain ⟨ce, xs, ts⟩ := c
    cases ce with
    | builtin b =>
      cases b with
      | append => cases ho
      | _ => cases hk
    | _ => cases hk
  | _ => cases hk
theorem opW_adds {o : Oper} (ho : addsOnly C o.op = true) (h : opW C L call f o = some a) : Adds L a := by
  unfold opW at h
  split at h
  · obtain ⟨v, _, rfl⟩ := Option.map_eq_some_iff.1 h
    exact ⟨fun p hp => (by cases hp), fun p hp => (by cases hp)⟩
  · rename_i hk
    exact mem_adds ho hk h
  · exact call_adds ho h
theorem step1_adds {all : List Oper} {o : Oper} {st r : St} (ho : addsOnly C o.op = true) (h : step1 C call f all o st = some r) : ∃ a, Adds st.look a ∧ r = st.after o.dst a := by
  simp only [step1] at h
  obtain ⟨g, _, h2⟩ := Option.bind_eq_some_iff.1 h
  obtain ⟨a, h3, h4⟩ := Option.bind_eq_some_iff.1 h2
  cases h4
  refine ⟨a, ?_, rfl⟩
  cases g with
  | false =>
    simp only [Bool.false_eq_true, if_false, Option.some.injEq] at h3
    subst h3
    exact ⟨fun p hp => (by cases hp), fun p hp => (by cases hp)⟩
  | true =>
    simp only [if_true] at h3
    exact opW_adds ho h3
end
section
variable {C : Cfg} {good : TypeId → Bool} {κ : Place} {I : Nat → Prop} {st : St} {a : Act} {w : World}
/-- Where an operand points is known. -/
theorem V1.keys {c : PV} {v : Value} (h : V1 C κ I st.look w c v) (hf : ∀ g cap, c ≠ .fn g cap) : (∀ k ∈ ptrKey c, (st.look.b k).isSome) ∧ ∀ k ∈ refKey c ++ eptrKey c, (st.look.m k).isSome := by
  refine ⟨V1.known h, fun k hk => ?_⟩
  cases c with
  | ref j off len ver =>
    obtain ⟨B, _, _, h1, _⟩ := h
    simp only [refKey, eptrKey, List.append_nil, List.mem_singleton] at hk
    subst hk
    rw [h1]; rfl
  | eptr j i off ver =>
    obtain ⟨B, _, h1, _⟩ := h
    simp only [refKey, eptrKey, List.nil_append, List.mem_singleton] at hk
    subst hk
    rw [h1]; rfl
  | _ => cases hk
theorem Adds.agreeV {d : Option Tmp} {did : Did} (h : Adds st.look did) {c : PV} {v : Value} (hv : VR C κ I st.look w c v) : Agree st.look (st.after d did).look c := by
  cases c with
  | ptr k off =>
    obtain ⟨k1, k2⟩ := V1.keys (C := C) (κ := κ) (I := I) (w := w) (st := st) (c := .ptr k off) (v := v) hv (fun _ _ => by simp)
    exact h.agree k1 k2
  | ref k off len ver =>
    obtain ⟨k1, k2⟩ := V1.keys (C := C) (κ := κ) (I := I) (w := w) (st := st) (c := .ref k off len ver) (v := v) hv (fun _ _ => by simp)
    exact h.agree k1 k2
  | eptr k i off ver =>
    obtain ⟨k1, k2⟩ := V1.keys (C := C) (κ := κ) (I := I) (w := w) (st := st) (c := .eptr k i off ver) (v := v) hv (fun _ _ => by simp)
    exact h.agree k1 k2
  | _ => trivial
end
end Go.AI
/- Drawn regions: an operation goes to the front. -/
namespace Go.AI
open Go Go.RowKit
section
variable {C : Cfg} {good : TypeId → Bool} {S : Base} {nt : Nat} {st : St} {a : Act} {w : World} {call : Caller} {f : FuncId} {ops : Array Oper}
theorem isPure_kind {op : Op} (h : isPure op = true) : kindOf op = .pure := by
  unfold isPure at h
  split at h
  · assumption
  · cases h
theorem some_next {P : Program} {o : Oper} {next : Act → World → Prop} (h : o.wp P a w next fun _ _ _ => False) : ∃ a' w', next a' w' := by
  unfold Oper.wp at h
  generalize (execOp a.eval o).run P w = r at h
  cases r with
  | ok n w' =>
    cases n with
    | value v => exact ⟨_, _, h⟩
    | skip => exact ⟨_, _, h⟩
    | defer d => exact ⟨_, _, h⟩
    | enter g args =>
      obtain ⟨e, w'', fr, h1, _⟩ := (show Calls P g args w' _ from h) []
      cases e with
      | returned v => exact ⟨_, _, h1⟩
      | panicked c => exact h1.elim
      | outgrown => obtain ⟨_, _, h2⟩ := (show LetsOut _ from h1); exact h2.elim
    | row r args =>
      obtain ⟨v, w'', h1, _⟩ := (show Rows P r args w' _ from h) default []
      exact ⟨_, _, h1⟩
    | _ => exact (show False from h).elim
  | halt x w' => cases x <;> exact (show False from h).elim
theorem rel_step (hK : Known C good) (hC : CallsOk C call) {o : Oper} {s : St} (h : Rel C S nt st a w) (hok : operOk C good nt o = true) (hs : step1 C call f ops.toList o st = some s) : ∃ a' w', Rel C S nt s a' w' := by
  simp only [step1] at hs
  obtain ⟨g, _, h2⟩ := Option.bind_eq_some_iff.1 hs
  obtain ⟨d, h3, h4⟩ := Option.bind_eq_some_iff.1 h2
  cases h4
  cases g with
  | true =>
    simp only [if_true] at h3
    exact some_next (oper_step hK hC h hok h3 _ _ fun a' w' h' => h')
  | false =>
    simp only [Bool.false_eq_true, if_false, Option.some.injEq] at h3
    subst h3
    obtain ⟨κ, I, hf⟩ := h
    refine ⟨a.put o.dst Go.undef, w, κ, I, hf.put (fun t ht => ?_) (d := { v := .skip }) (Left.refl hf.heap) rfl⟩
    simp only [operOk, Bool.and_eq_true] at hok
    have := hok.2
    rw [dstOk, ht] at this
    simpa using this
theorem swap (hK : Known C good) {j i : Oper} {s1 s2 : St} (h : Rel C S nt st a w) (hc : comm C ops j i = true) (hj : step1 C call f ops.toList j st = some s1) (hi : step1 C call f ops.toList i s1 = some s2) :
    ∃ r1 r2, step1 C call f ops.toList i st = some r1 ∧ step1 C call f ops.toList j r1 = some r2 ∧ s2.look = r2.look := by
  obtain ⟨κ, I, hf⟩ := h
  simp only [comm, Bool.or_eq_true, Bool.and_eq_true] at hc
  rcases hc with ⟨⟨h1, h2⟩, h3⟩ | ⟨⟨h1, h2⟩, h3⟩
  · refine pure_ahead (isPure_kind h1) h3 hj hi fun o _ => ?_
    obtain ⟨d, hd, rfl⟩ := step1_adds h2 hj
    exact hd.agreeV (hf.ev hK.glob o)
  · refine pure_behind (isPure_kind h1) h3 hj hi fun r1 hr1 o _ => ?_
    obtain ⟨d, hd, rfl⟩ := step1_adds h2 hr1
    exact hd.agreeV (hf.ev hK.glob o)
theorem to_front (hK : Known C good) (hC : CallsOk C call) {i : Oper} {l2 : List Oper} : ∀ (l1 : List Oper) {st s : St} {a : Act} {w : World}, Rel C S nt st a w → (∀ j ∈ l1, operOk C good nt j = true ∧ comm C ops j i = true) → opsW C call f ops.toList (l1 ++ i :: l2) st = some s →
    ∃ s', opsW C call f ops.toList (i :: (l1 ++ l2)) st = some s' ∧ s.look = s'.look
  | [], st, s, a, w, _, _, hs => ⟨s, hs, rfl⟩
  | j :: l1, st, s, a, w, h, hj, hs => by
    rw [List.cons_append, opsW_step] at hs
    obtain ⟨s1, h1, h2⟩ := Option.bind_eq_some_iff.1 hs
    obtain ⟨a1, w1, hr1⟩ := rel_step hK hC h (hj j (by simp)).1 h1
    obtain ⟨s', h3, h4⟩ := to_front hK hC l1 hr1 (fun x hx => hj x (by simp [hx])) h2
    rw [opsW_step] at h3
    obtain ⟨t1, h5, h6⟩ := Option.bind_eq_some_iff.1 h3
    obtain ⟨r1, r2, h7, h8, h9⟩ := swap hK h (hj j (by simp)).2 h1 h5
    obtain ⟨s'', h10, h11⟩ := opsW_same _ h9 h6
    refine ⟨s'', ?_, h4.trans h11⟩
    rw [opsW_step, h7, Option.bind_some, List.cons_append, opsW_step, h8, Option.bind_some]
    exact h10
end
end Go.AI
/- Drawn regions: whatever the order. -/
namespace Go.AI
open Go Go.RowKit
section
variable {C : Cfg} {good : TypeId → Bool} {S : Base} {nt : Nat} {call : Caller} {f : FuncId} {ops : Array Oper}
theorem Rel.same {st st' : St} {a : Act} {w : World} (h : Rel C S nt st a w) (e : st.look = st'.look) : Rel C S nt st' a w := by
  obtain ⟨κ, I, hf⟩ := h
  exact ⟨κ, I, { heap := e ▸ hf.heap, tmps := e ▸ hf.tmps, size := hf.size, defers := hf.defers, goes := e ▸ hf.goes, since := e ▸ hf.since }⟩
theorem ready_deps {listed : Array Bool} {i : Nat} (h : i ∈ Region.ready .any ops listed) : ∀ p ∈ deps ops i, listed.getD p false = true := by
  rw [mem_ready] at h
  obtain ⟨_, o, ho, hall⟩ := h
  intro p hp
  unfold deps at hp
  rw [ho] at hp
  obtain ⟨e, he, rfl⟩ := List.mem_map.1 hp
  obtain ⟨he, hb⟩ := List.mem_filter.1 he
  exact hall e (by simpa using he) hb
theorem anc_listed {listed : Array Bool} (hcl : ∀ i, listed.getD i false = true → ∀ p ∈ deps ops i, listed.getD p false = true) : ∀ (n i : Nat), (∀ p ∈ deps ops i, listed.getD p false = true) → ∀ j ∈ anc ops n i, listed.getD j false = true
  | 0, _, _, j, hj => by cases hj
  | n + 1, i, h, j, hj => by
    simp only [anc, List.mem_flatMap] at hj
    obtain ⟨p, hp, hj⟩ := hj
    rcases List.mem_cons.1 hj with rfl | hj
    · exact h _ hp
    · exact anc_listed hcl n p (hcl p (h p hp)) j hj
theorem any_ok (hK : Known C good) (hC : CallsOk C call) (hok : ∀ o ∈ ops.toList, operOk C good nt o = true) {Q : Exit → Act → World → Prop} {N : Nat} (hsz : ∀ i p, p ∈ deps ops i → p < ops.size) :
    ∀ (fuel : Nat) (l : List Nat) (listed : Array Bool) (st s : St) (a : Act) (w : World), l.length ≤ fuel → listed.size = ops.size → (∀ i, i ∈ l ↔ i < ops.size ∧ listed.getD i true = false) → l.Nodup →
    l.Pairwise (fun i k => k ∉ deps ops i) → (∀ i ∈ l, i ∉ deps ops i) → l.Pairwise (fun j i => commI C ops j i = true ∨ j ∈ anc ops N i) → (∀ i, listed.getD i false = true → ∀ p ∈ deps ops i, listed.getD p false = true) →
    Rel C S nt st a w → opsW C call f ops.toList (l.filterMap (ops.toList[·]?)) st = some s → (∀ a' w', Rel C S nt s a' w' → Q .normal a' w') → wpAny C.P .any ops Q fuel listed a w := by
  intro fuel
  induction fuel with
  | zero =>
    intro l listed st s a w hl _ hmem _ _ _ _ _ h hr hQ
    have hnil : l = [] := List.eq_nil_of_length_eq_zero (by omega)
    subst hnil
    cases hr
    refine ⟨?_, hQ a w h⟩
    apply List.eq_nil_iff_forall_not_mem.2
    intro i hi
    rw [mem_ready] at hi
    obtain ⟨h0, o, ho, _⟩ := hi
    have := (hmem i).2 ⟨(Array.getElem?_eq_some_iff.1 ho).1, h0⟩
    cases this
  | succ fuel ih =>
    intro l listed st s a w hl hls hmem hnd hord hself hpair hcl h hr hQ
    refine ⟨fun hnone => ?_, fun i hi => ?_⟩
    · cases l with
      | nil => cases hr; exact hQ a w h
      | cons i l =>
        exfalso
        have hi0 := (hmem i).1 (by simp)
        have : i ∈ Region.ready .any ops listed := by
          rw [mem_ready]
          refine ⟨hi0.2, ops[i], Array.getElem?_eq_getElem hi0.1, fun e he hb => ?_⟩
          have hd : e.on ∈ deps ops i := by
            unfold deps
            rw [Array.getElem?_eq_getElem hi0.1]
            exact List.mem_map.2 ⟨e, List.mem_filter.2 ⟨by simpa using he, hb⟩, rfl⟩
          have hlt := hsz i _ hd
          have hnot : e.on ∉ i :: l := fun hm => by
            rcases List.mem_cons.1 hm with he2 | hm
            · exact hself i (by simp) (he2 ▸ hd)
            · exact (List.pairwise_cons.1 hord).1 _ hm hd
          have : ¬ (listed.getD e.on true = false) := fun hf => hnot ((hmem _).2 ⟨hlt, hf⟩)
          have hlt' : e.on < listed.size := by omega
          simp only [Array.getD_eq_getD_getElem?, Array.getElem?_eq_getElem hlt', Option.getD_some] at this ⊢
          simpa using this
        rw [hnone] at this
        cases this
    · have hir := hi
      rw [mem_ready] at hi
      obtain ⟨h0, o, ho, _⟩ := hi
      have hil : i ∈ l := (hmem i).2 ⟨(Array.getElem?_eq_some_iff.1 ho).1, h0⟩
      obtain ⟨l1, l2, rfl⟩ := List.append_of_mem hil
      have ho' : ops.toList[i]? = some o := by rw [Array.getElem?_toList]; exact ho
      rw [List.filterMap_append, List.filterMap_cons, ho'] at hr
      have hcomm : ∀ x ∈ l1.filterMap (ops.toList[·]?), operOk C good nt x = true ∧ comm C ops x o = true := by
        intro x hx
        obtain ⟨j, hj, hx⟩ := List.mem_filterMap.1 hx
        refine ⟨hok x (List.mem_of_getElem? hx), ?_⟩
        have hp := (List.pairwise_append.1 hpair).2.2 j hj i (by simp)
        rcases hp with hp | hp
        · unfold commI at hp
          rw [Array.getElem?_toList] at hx
          rw [hx, ho] at hp
          exact hp
        · have h1 := anc_listed hcl N i (ready_deps hir) j hp
          have h2 := ((hmem j).1 (by simp [hj])).2
          have hlt : j < listed.size := by have := ((hmem j).1 (by simp [hj])).1; omega
          simp only [Array.getD_eq_getD_getElem?, Array.getElem?_eq_getElem hlt, Option.getD_some] at h1 h2
          rw [h1] at h2
          cases h2
      obtain ⟨s', hs', hsame⟩ := to_front hK hC _ h hcomm hr
      rw [opsW_step] at hs'
      obtain ⟨t1, h1, h2⟩ := Option.bind_eq_some_iff.1 hs'
      have hlen : (l1 ++ l2).length ≤ fuel := by simp only [List.length_append, List.length_cons] at hl ⊢; omega
      have hsub : (l1 ++ l2).Sublist (l1 ++ i :: l2) := List.Sublist.append (List.Sublist.refl _) (List.sublist_cons_self _ _)
      have hni : i ∉ l1 ++ l2 := by
        obtain ⟨_, n2, n3⟩ := List.nodup_append.1 hnd
        rintro hm
        rcases List.mem_append.1 hm with hm | hm
        · exact n3 i hm i (by simp) rfl
        · exact (List.nodup_cons.1 n2).1 hm
      have hlt : i < listed.size := by rw [hls]; exact (Array.getElem?_eq_some_iff.1 ho).1
      have next : ∀ a' w', Rel C S nt t1 a' w' → wpAny C.P .any ops Q fuel (listed.setIfInBounds i true) a' w' := by
        intro a' w' h'
        refine ih (l1 ++ l2) _ t1 s' a' w' hlen (by simpa using hls) (fun j => ?_) (hnd.sublist hsub) (hord.sublist hsub) (fun j hj => hself j (hsub.mem hj)) (hpair.sublist hsub) (fun j hj p hp => ?_) h' (by rw [List.filterMap_append]; exact h2) fun a' w' hr' => hQ a' w' (hr'.same hsame.symm)
        · by_cases e : j = i
          · subst e
            constructor
            · intro hj; exact absurd hj hni
            · rintro ⟨_, hf⟩
              simp [Array.getD_eq_getD_getElem?, hlt] at hf
          · rw [getD_set_ne true (Ne.symm e)]
            rw [← hmem j]
            simp only [List.mem_append, List.mem_cons]
            constructor
            · rintro (h | h)
              · exact .inl h
              · exact .inr (.inr h)
            · rintro (h | h | h)
              · exact .inl h
              · exact absurd h e
              · exact .inr h
        · by_cases e : j = i
          · subst e
            exact getD_set_true (ready_deps hir p hp)
          · rw [getD_set_ne false (Ne.symm e)] at hj
            exact getD_set_true (hcl j hj p hp)
      unfold wpOp
      simp only [ho]
      have h1' := h1
      simp only [step1] at h1
      obtain ⟨g, g1, g2⟩ := Option.bind_eq_some_iff.1 h1
      obtain ⟨d, g3, g4⟩ := Option.bind_eq_some_iff.1 g2
      cases g4
      have hw : Region.wanted o (yielded ops a.tmps) = g := by
        obtain ⟨κ, I, hf⟩ := h
        exact hf.guard g1
      rw [hw]
      have hoo := hok o (List.mem_of_getElem? ho')
      cases g with
      | true =>
        simp only [if_true] at g3 ⊢
        exact .inl (oper_step hK hC h hoo g3 _ Q next)
      | false =>
        simp only [Bool.false_eq_true, if_false, Option.some.injEq] at g3 ⊢
        subst g3
        refine next _ _ ?_
        obtain ⟨κ, I, hf⟩ := h
        refine ⟨κ, I, hf.put (fun t ht => ?_) (d := { v := .skip }) (Left.refl hf.heap) rfl⟩
        simp only [operOk, Bool.and_eq_true] at hoo
        have := hoo.2
        rw [dstOk, ht] at this
        simpa using this
end
end Go.AI
/- Drawn regions: the check suffices. -/
namespace Go.AI
open Go Go.RowKit
section
variable {C : Cfg} {good : TypeId → Bool} {S : Base} {nt : Nat}
theorem Rel.drew {st : St} {a : Act} {w : World} (h : Rel C S nt st a w) : Rel C S nt st a { w with drawn := w.drawn + 1 } := by
  obtain ⟨κ, I, hf⟩ := h
  have hg : Goes C κ κ I I st.look st.look w { w with drawn := w.drawn + 1 } := ⟨fun _ h => h, fun _ _ => rfl, fun _ h => ⟨h, rfl⟩, fun _ B h => ⟨B, h, rfl, Nat.le_refl _, fun _ => rfl⟩⟩
  have hh := hf.heap
  refine ⟨κ, I, { heap := ⟨hh.imm, fun k cs hk => ?_, fun k B hB => ?_, hh.bb, hh.bm, hh.mm⟩, tmps := fun t => VR.go hg (hf.tmps t), size := hf.size, defers := hf.defers, goes := hf.goes.trans hg, since := ⟨hf.since.os, hf.since.tape, hf.since.output, hf.since.size, hf.since.keep, hf.since.new, hf.since.box, hf.since.blk⟩ }⟩
  · obtain ⟨h2, vs, e, h3, h4⟩ := hh.box k cs hk
    exact ⟨h2, vs, e, h3, h4.mono fun a b hab => V1.go hg hab⟩
  · exact (hh.blk k B hB).go rfl (fun _ h => h) (fun _ _ => rfl) (fun _ _ => rfl) fun a ha hf => ((hh.blk k B hB).own a ha).2 hf
theorem arrange_eq {ops : Array Oper} (p : Option (List Nat)) : arrange ops.toList p = (orderOf ops p).filterMap (ops.toList[·]?) := by
  cases p with
  | some l => rfl
  | none =>
    simp only [arrange, orderOf, Option.getD_none]
    rw [← Array.length_toList]
    generalize ops.toList = l
    apply List.ext_getElem?
    intro i
    have : (List.range l.length).filterMap (l[·]?) = l := by
      induction l with
      | nil => rfl
      | cons x l ih =>
        rw [List.length_cons, List.range_succ_eq_map, List.filterMap_cons]
        simp only [List.getElem?_cons_zero, List.filterMap_map]
        congr 1
    rw [this]
theorem draws_ok (hR : Known C good) (hfol : C.P.follows .mixedOrders = true) (call : Caller) (hC : CallsOk C call) : DrawsOk C good call := by
  intro S nt f id os st st' a w Q hb hok h hr hQ
  simp only [drawB, Bool.and_eq_true, List.all_eq_true, decide_eq_true_eq, List.mem_range, List.contains_iff_mem, bne_iff_ne, ne_eq] at hb
  obtain ⟨⟨⟨b1, b2⟩, b3⟩, b4⟩ := hb
  have b5 := pairsB_ok b4
  simp only [Bool.and_eq_true, Bool.or_eq_true, bne_iff_ne, ne_eq, Bool.not_eq_true', List.contains_iff_mem] at b5
  have hdeps : ∀ i p, p ∈ deps os i → i < os.size := fun i p hp => by
    unfold deps at hp
    split at hp
    · rename_i o ho; exact (Array.getElem?_eq_some_iff.1 ho).1
    · cases hp
  refine wp_region_any hfol ?_
  refine any_ok (nt := nt) (N := os.size) hR hC hok (fun i p hp => ((b3 i (hdeps i p hp)).2 p hp).1) os.size (orderOf os (C.order f id)) _ st st' a _ (by omega) (by simp) (fun i => ⟨fun hi => ⟨b2 i hi, ?_⟩, fun hi => (b3 i hi.1).1⟩) (b5.imp fun hx => hx.1.1) (b5.imp fun {x y} hx => ?_) (fun i hi hd => ((b3 i (b2 i hi)).2 i hd).2 rfl) (b5.imp fun hx => hx.2) (fun i hi => ?_) h.drew (by rw [← arrange_eq]; exact hr) hQ
  · have := b2 i hi
    simp [Array.getD_eq_getD_getElem?, this]
  · intro hm
    have h2 := hx.1.2
    have : (deps os x).contains y = true := List.contains_iff_mem.2 hm
    rw [this] at h2
    cases h2
  · simp only [Array.getD_eq_getD_getElem?, Array.getElem?_replicate] at hi
    split at hi <;> simp at hi
/-- The interpreter is right. -/
theorem right (hR : Ready C good) (hfol : C.P.follows .mixedOrders = true) : Sound C (call C) := sound hR fun call hC => draws_ok hR.toKnown hfol call hC
end
end Go.AI
/- What is told of slices.Sort and slices.Compact, out of the shelf's contracts. -/
namespace Go.AI
open Go Go.RowKit Go.Sort
section
variable {C : Cfg} {κ : Place} {I : Nat → Prop} {w w' : World}
theorem mem_one {B : Blk} {k : Nat} {B1 : Blk} (h : (memOf [] [(0, B)]).m k = some B1) : k = 0 ∧ B1 = B := by
  change Map.get k [(0, B)] = some B1 at h
  simp only [Map.get] at h
  split at h
  · rename_i e
    cases h
    exact ⟨e.symm, rfl⟩
  · cases h
theorem mem_at {B : Blk} : (memOf [] [(0, B)]).m 0 = some B := rfl
theorem told_left {B B' : Blk} (h : Heap C κ I (memOf [] [(0, B)]) w) (hf : B.froz = false) (hf' : B'.froz = false) (hn : B'.n = B.n) (he : B'.e = B.e) (hlen : B'.xs.length = B'.n) (h0 : (κ.blk 0).2.2 = 0)
    (hrow : ∃ vals : List (List Value), All2 (fun el vs => el.length = (C.ty B'.e).sz ∧ All2 (KR I w') el vs) B'.xs vals ∧ w'.ownsRow 0 B'.e (C.ty B'.e).sz (.slice (κ.blk 0).1 B'.n (κ.blk 0).2.1) B'.n vals.flatten)
    (hos : w'.os = w.os) (htape : w'.tape = w.tape) (hout : w'.output = w.output) (hsize : w.heap.size ≤ w'.heap.size) (hsame : ∀ i, i < w.heap.size → (∀ a, (κ.blk 0).1 = some a → a.block ≠ i) → w'.heap[i]? = w.heap[i]?) :
    Left C κ κ I I (memOf [] [(0, B)]) (memOf [] [(0, B')]) w w' := by
  have hb := h.blk 0 B mem_at
  have hne : ∀ i, I i → ∀ a, (κ.blk 0).1 = some a → a.block ≠ i := fun i hi a ha e => (hb.own a ha).2 hf (e ▸ hi)
  have hI : ∀ i, I i → w'.heap[i]? = w.heap[i]? := fun i hi => hsame i (h.imm i hi) (hne i hi)
  refine ⟨⟨fun i hi => Nat.lt_of_lt_of_le (h.imm i hi) hsize, (fun k cs hk => by cases hk), fun k B1 hk => ?_, (fun k k' hk => by cases hk), (fun k k' B a hk => by cases hk), fun k k' B1 B2 a a' hk hk' _ _ _ _ _ => (mem_one hk).1.trans (mem_one hk').1.symm⟩, ⟨fun _ h => h, hI, fun k hk => (by cases hk), fun k B1 hk => ?_⟩, ⟨hos, htape, hout, hsize, fun i hi _ hm => hsame i hi fun a ha => hm 0 B a mem_at hf ha, fun i hi => .inl hi, fun k hk => (by cases hk), fun k B1 a hk hz ha => ?_⟩⟩
  · obtain ⟨rfl, rfl⟩ := mem_one hk
    refine ⟨hlen, ?_, by rw [h0]; exact Nat.zero_le _, fun a ha => ⟨fun hz => (by rw [hf'] at hz; cases hz), fun _ => (hb.own a ha).2 hf⟩⟩
    rw [h0, List.drop_zero, Nat.sub_zero]
    exact hrow
  · obtain ⟨rfl, rfl⟩ := mem_one hk
    exact ⟨B', mem_at, he, by omega, fun _ => rfl⟩
  · obtain ⟨rfl, rfl⟩ := mem_one hk
    exact .inl ⟨B, a, mem_at, hf, ha, rfl⟩
theorem ints_flat : ∀ {l : List Int} {vals : List (List Value)} (_ : All2 (fun el vs => el.length = 1 ∧ All2 (KR I w) el vs) (intRow l) vals), vals.flatten = l.map (Value.int .i64)
  | [], [], _ => rfl
  | x :: l, v :: vals, h => by
    have h1 := h.1.2
    match v, h1 with
    | [u], h1 =>
      have h2 := h1.1
      simp only [KR] at h2
      subst h2
      rw [List.flatten_cons, ints_flat h.2]
      rfl
  | [], _ :: _, h => h.elim
  | _ :: _, [], h => h.elim
theorem ints_vals (I : Nat → Prop) (w : World) : ∀ l : List Int, All2 (fun el vs => el.length = 1 ∧ All2 (KR I w) el vs) (intRow l) (l.map fun x => [Value.int .i64 x])
  | [] => trivial
  | x :: l => ⟨⟨rfl, by simp only [All2, KR, and_true]⟩, ints_vals I w l⟩
theorem ints_flatten : ∀ l : List Int, (l.map fun x => [Value.int .i64 x]).flatten = l.map (Value.int .i64)
  | [] => rfl
  | x :: l => by rw [List.map_cons, List.flatten_cons, ints_flatten l]; rfl
/-- How the one row that was handed on lies. -/
theorem handed {B : Blk} {n v : Nat} {vs : Array Value} {l : List Int} (hH : Heap C κ I (memOf [] [(0, B)]) w) (hv : All2 (VR C κ I (memOf [] [(0, B)]) w) [.ref 0 0 n v] vs.toList) (hsz : (C.ty B.e).sz = 1) (hvn : v = B.n) (hnn : n = B.n) (hl : B.xs = intRow l) :
    vs = #[.slice (κ.blk 0).1 l.length (κ.blk 0).2.1] ∧ l.length = B.n ∧ (κ.blk 0).2.2 = 0 ∧ w.ownsRow 0 B.e 1 (.slice (κ.blk 0).1 l.length (κ.blk 0).2.1) l.length (l.map (Value.int .i64)) := by
  obtain ⟨u, rfl, h1⟩ : ∃ u, vs = #[u] ∧ VR C κ I (memOf [] [(0, B)]) w (.ref 0 0 n v) u := by
    obtain ⟨us⟩ := vs
    match us, hv with
    | [u], h => exact ⟨u, rfl, h.1⟩
  obtain ⟨B1, A, cap, hB, rfl, _, h2⟩ := h1
  obtain ⟨_, rfl⟩ := mem_one hB
  obtain ⟨h3, h4, h5, h6, h7⟩ := h2 hvn
  have h0 : (κ.blk 0).2.2 = 0 := by omega
  have hA := h7 h0.symm
  have hb := hH.blk 0 B1 mem_at
  have hlen := hb.len
  rw [hl, show (intRow l).length = l.length by simp [intRow]] at hlen
  obtain ⟨vals, h8, h9⟩ := hb.row
  rw [h0, List.drop_zero, hl, hsz] at h8
  rw [h0, Nat.sub_zero, hsz, ints_flat h8] at h9
  subst hA
  rw [h5, h0, hnn, ← hlen]
  rw [← hlen] at h9
  exact ⟨rfl, rfl, rfl, h9⟩
theorem told_sort {f : FuncId} (hf : ∃ fn, C.P.funcs[f]? = some fn ∧ (fn.name == "runtime.NumGoroutine") = false ∧ fn.body.isNone = false)
    (hnone : ∀ (p : Option Addr) (cap : Nat) (w : World), Calls C.P f #[.slice p 0 cap] w fun e w' => e = .returned (.tuple #[]) ∧ w' = w)
    (hsort : ∀ (blk off cap : Nat) (zs : List Int) (w : World), Holds (Value.int .i64) w blk off zs.toArray → blk < w.heap.size → zs.length < 4611686018427387904 →
      Calls C.P f #[.slice (some ⟨blk, off, none⟩) zs.length cap] w fun e w' => e = .returned (.tuple #[]) ∧ ∃ n os, w' = grow (putRow (Value.int .i64) (Sort.ahead w n) blk off (zs.mergeSort fun x y => decide (x ≤ y)).toArray) os)
    {n v : Nat} {B : Blk} {r : List PV × Map (List PV) × Map Blk} (h : sortB (C.ty B.e).sz n v B = some r) : SoundAt C f [.ref 0 0 n v] [] [(0, B)] r := by
  unfold sortB at h
  split at h
  · rename_i hc
    obtain ⟨hsz, hfz, hvn, hnn, hlt⟩ := hc
    obtain ⟨l, hl, hr⟩ := Option.bind_eq_some_iff.1 h
    cases hr
    have hl := intsOf_eq hl
    refine ⟨(fun _ hm => by cases hm), hf, fun κ I w vs hH hv => ?_⟩
    obtain ⟨rfl, hlen, h0, hown⟩ := handed hH hv hsz hvn hnn hl
    have hsl : (sorted l).length = l.length := List.length_mergeSort l
    have hres : ∀ (w' : World) (L : Look), Res C w.heap.size id κ I L w' [] (.tuple #[]) := fun w' L => ⟨⟨[], trivial, List.nodup_nil, (fun g hg => by cases hg), rfl⟩⟩
    by_cases hu : Value.slice (κ.blk 0).1 l.length (κ.blk 0).2.1 = .slice none 0 0
    · have hl0 : l = [] := List.eq_nil_of_length_eq_zero (by injection hu)
      subst hl0
      refine (hnone (κ.blk 0).1 (κ.blk 0).2.1 w).mono ?_
      rintro e w' ⟨rfl, rfl⟩
      have hs : sorted [] = [] := List.eq_nil_of_length_eq_zero hsl
      have hB : ({ B with xs := intRow (sorted []) } : Blk) = B := by rw [hs, ← hl]
      rw [hB]
      exact ⟨_, κ, I, rfl, hH, Goes.refl, Since.refl, hres _ _⟩
    · obtain ⟨g, cap, he, hb, hg, hn, hm, _, hHo⟩ := Lib.holds_of_ownsRow hown hu
      rw [he]
      refine (hsort g 0 cap l w hHo hg (by omega)).mono ?_
      rintro e w' ⟨rfl, k, os, rfl⟩
      have hg' : w.grownBy (grow (putRow (Value.int .i64) (Sort.ahead w k) g 0 (sorted l).toArray) os) (some g) := grownBy_sortedI _
      have hA : (κ.blk 0).1 = some ⟨g, 0, none⟩ := by injection he
      have hcap : (κ.blk 0).2.1 = cap := by injection he
      have hrow : ∃ cur, w.heap[g]? = some (.cells cur B.e (0, 0)) ∧ l.length ≤ cap ∧ cap ≤ maxLen ∧ cur.size = cap * 1 := by
        rcases hown.2 with ⟨h1, _⟩ | ⟨g2, cap2, cur, h1, _, h2, h3, h4, h5, _⟩
        · exact absurd h1 hu
        · rw [he] at h1
          injection h1 with e1 _ e3
          injection e1 with e1
          injection e1 with e1
          subst e1; subst e3
          exact ⟨cur, h2, h3, h4, h5⟩
      obtain ⟨cur, h2, h3, h4, h5⟩ := hrow
      have hL := told_left (B' := { B with xs := intRow (sorted l) }) (w' := grow (putRow (Value.int .i64) (Sort.ahead w k) g 0 (sorted l).toArray) os) hH hfz hfz rfl rfl (by show (intRow (sorted l)).length = B.n; rw [show (intRow (sorted l)).length = (sorted l).length by simp [intRow]]; omega) h0
        ⟨_, by show All2 _ (intRow (sorted l)) _; rw [show (C.ty B.e).sz = 1 from hsz]; exact ints_vals I _ (sorted l), by
          show World.ownsRow _ 0 B.e (C.ty B.e).sz (.slice (κ.blk 0).1 B.n (κ.blk 0).2.1) B.n _
          rw [hsz, ints_flatten, hA, hcap, ← hlen]
          exact ownsRow_sortedI hsl (Nat.zero_le _) h2 h3 h4 h5⟩ hg'.os hg'.tape hg'.output hg'.size fun i hi hne => hg'.block i hi fun e => hne _ hA (by injection e with e; exact e.symm)
      exact ⟨_, κ, I, rfl, hL.heap, hL.goes, hL.since, hres _ _⟩
  · cases h
theorem told_compact {f : FuncId} (hf : ∃ fn, C.P.funcs[f]? = some fn ∧ (fn.name == "runtime.NumGoroutine") = false ∧ fn.body.isNone = false)
    (hnone : ∀ (p : Option Addr) (cap : Nat) (w : World), Calls C.P f #[.slice p 0 cap] w fun e w' => e = .returned (.slice p 0 cap) ∧ w' = w)
    (hcomp : ∀ (blk off cap : Nat) (zs : List Int) (w : World), Holds (Value.int .i64) w blk off zs.toArray → zs.length ≤ 9223372036854775807 → zs.length ≤ cap →
      Calls C.P f #[.slice (some ⟨blk, off, none⟩) zs.length cap] w fun e w' => e = .returned (.slice (some ⟨blk, off, none⟩) (Lib.compact zs).length cap) ∧ ∃ q, w' = putRow (Value.int .i64) (Sort.ahead w q) blk off (Lib.compact zs ++ List.replicate (zs.length - (Lib.compact zs).length) 0).toArray)
    {n v : Nat} {B : Blk} {r : List PV × Map (List PV) × Map Blk} (h : compactB (C.ty B.e).sz n v B = some r) : SoundAt C f [.ref 0 0 n v] [] [(0, B)] r := by
  unfold compactB at h
  split at h
  · rename_i hc
    obtain ⟨hsz, hfz, hvn, hnn⟩ := hc
    obtain ⟨l, hl, hr⟩ := Option.bind_eq_some_iff.1 h
    cases hr
    have hl := intsOf_eq hl
    refine ⟨(fun _ hm => by cases hm), hf, fun κ I w vs hH hv => ?_⟩
    obtain ⟨rfl, hlen, h0, hown⟩ := handed hH hv hsz hvn hnn hl
    have hcl := Lib.compact_length_le l
    have hrl : (Lib.compact l ++ List.replicate (l.length - (Lib.compact l).length) 0).length = l.length := by rw [List.length_append, List.length_replicate]; omega
    have hres : ∀ (w' : World), Res C w.heap.size id κ I (memOf [] [(0, { B with xs := intRow (Lib.compact l ++ List.replicate (l.length - (Lib.compact l).length) 0) })]) w' [.ref 0 0 (Lib.compact l).length B.n] (.slice (κ.blk 0).1 (Lib.compact l).length (κ.blk 0).2.1) := fun w' => by
      refine ⟨⟨[.slice (κ.blk 0).1 (Lib.compact l).length (κ.blk 0).2.1], ⟨⟨_, (κ.blk 0).1, (κ.blk 0).2.1, rfl, rfl, Nat.le_refl _, fun _ => ?_⟩, trivial⟩, List.nodup_nil, (fun g hg => by cases hg), rfl⟩⟩
      show (κ.blk 0).2.2 ≤ 0 ∧ 0 + (Lib.compact l).length ≤ B.n ∧ (κ.blk 0).2.1 = (κ.blk 0).2.1 - (0 - (κ.blk 0).2.2) ∧ (0 < (Lib.compact l).length ∨ 0 < (κ.blk 0).2.1 → ∃ a, (κ.blk 0).1 = some a ∧ (κ.blk 0).1 = some (a.add ((0 - (κ.blk 0).2.2) * (C.ty B.e).sz))) ∧ (0 = (κ.blk 0).2.2 → (κ.blk 0).1 = (κ.blk 0).1)
      rw [h0]
      refine ⟨Nat.le_refl _, by omega, rfl, fun hp => ?_, fun _ => rfl⟩
      rcases hown.2 with ⟨h1, _⟩ | ⟨g, cap, cur, h1, _⟩
      · injection h1 with e1 e2 e3
        omega
      · injection h1 with e1 e2 e3
        refine ⟨_, e1, ?_⟩
        rw [e1]
        simp [Addr.add]
    by_cases hu : Value.slice (κ.blk 0).1 l.length (κ.blk 0).2.1 = .slice none 0 0
    · have hl0 : l = [] := List.eq_nil_of_length_eq_zero (by injection hu)
      subst hl0
      refine (hnone (κ.blk 0).1 (κ.blk 0).2.1 w).mono ?_
      rintro e w' ⟨rfl, rfl⟩
      have hs : Lib.compact ([] : List Int) = [] := List.eq_nil_of_length_eq_zero (by simpa using hcl)
      have hB : ({ B with xs := intRow (Lib.compact ([] : List Int) ++ List.replicate (([] : List Int).length - (Lib.compact ([] : List Int)).length) 0) } : Blk) = B := by rw [hs]; show ({ B with xs := intRow [] } : Blk) = B; rw [← hl]
      have hr := hres w'
      rw [hB] at hr ⊢
      rw [hs] at hr
      exact ⟨_, κ, I, rfl, hH, Goes.refl, Since.refl, by rw [hs]; exact hr⟩
    · obtain ⟨g, cap, he, hb, hg, hn, hm, _, hHo⟩ := Lib.holds_of_ownsRow hown hu
      have hA : (κ.blk 0).1 = some ⟨g, 0, none⟩ := by injection he
      have hcap : (κ.blk 0).2.1 = cap := by injection he
      rw [he]
      refine (hcomp g 0 cap l w hHo (by simp only [maxLen] at hm; omega) hn).mono ?_
      rintro e w' ⟨rfl, q, hw'⟩
      have hbw : w.grownBy w' (some g) := by
        have := grownBy_sortedI (w := w) (g := g) (n := q) (os := #[]) (Lib.compact l ++ List.replicate (l.length - (Lib.compact l).length) 0).toArray
        rw [grow_empty] at this
        rw [hw']
        exact this
      rw [he] at hown
      have hnew : w'.ownsRow 0 B.e 1 (.slice (some ⟨g, 0, none⟩) l.length cap) l.length ((Lib.compact l ++ List.replicate (l.length - (Lib.compact l).length) 0).map (Value.int .i64)) := by
        have := Lib.ownsRow_putRow (q := q) (k := l.length) hown hrl (Nat.le_refl _)
        rw [List.take_of_length_le (Nat.le_of_eq hrl)] at this
        rw [hw']
        exact this
      clear hw' hown
      have hL := told_left (B' := { B with xs := intRow (Lib.compact l ++ List.replicate (l.length - (Lib.compact l).length) 0) }) (w' := w') hH hfz hfz rfl rfl (by show (intRow _).length = B.n; rw [show (intRow (Lib.compact l ++ List.replicate (l.length - (Lib.compact l).length) 0)).length = (Lib.compact l ++ List.replicate (l.length - (Lib.compact l).length) 0).length by simp only [intRow, List.length_map]]; omega) h0
        ⟨_, by show All2 _ (intRow _) _; rw [show (C.ty B.e).sz = 1 from hsz]; exact ints_vals I _ _, by
          show World.ownsRow _ 0 B.e (C.ty B.e).sz (.slice (κ.blk 0).1 B.n (κ.blk 0).2.1) B.n _
          rw [hsz, ints_flatten, hA, hcap, ← hlen]
          exact hnew⟩ hbw.os hbw.tape hbw.output hbw.size fun i hi hne => hbw.block i hi fun e => hne _ hA (by injection e with e; exact e.symm)
      have hr := hres w'
      have hr2 : Value.slice (κ.blk 0).1 (Lib.compact l).length (κ.blk 0).2.1 = .slice (some ⟨g, 0, none⟩) (Lib.compact l).length cap := by rw [hA, hcap]
      exact ⟨_, κ, I, rfl, hL.heap, hL.goes, hL.since, hr2 ▸ hr⟩
  · cases h
end
end Go.AI
/- From a datum that is read to the values that the interpreter takes; and what a law's answer says. -/
namespace Go.AI
open Go Go.RowKit
section
variable {H : Type} {enc : TypeId × Value → H} {P : Program} {w : World}
def here (w : World) (i : Nat) : Prop := i < w.heap.size
/-- Whatever is read of type t with at most n steps down is, as pure values, of the kind Q. -/
def Rd (enc : TypeId × Value → H) (P : Program) (w : World) (n : Nat) (t : TypeId) (Q : List PV → Prop) : Prop :=
  ∀ fuel, fuel ≤ n → ∀ cs x, DataW.trod enc P w 0 (fun _ => true) true fuel t cs = some x → ∃ ps, Q ps ∧ All2 (KR (here w) w) ps cs
theorem Rd.le {n m : Nat} {t : TypeId} {Q : List PV → Prop} (h : Rd enc P w n t Q) (hm : m ≤ n) : Rd enc P w m t Q := fun fuel hf => h fuel (Nat.le_trans hf hm)
theorem rd_zero {t : TypeId} {Q : List PV → Prop} : Rd enc P w 0 t Q := by
  intro fuel hf cs x h
  obtain rfl : fuel = 0 := by omega
  simp [DataW.trod] at h
theorem rd_int {t : TypeId} {k : IntKind} (ht : P.underlying t = some (.int k)) (n : Nat) : Rd enc P w n t (fun ps => ∃ v, ps = [.int k v]) := by
  intro fuel _ cs x h
  obtain ⟨v, rfl, _⟩ := DataW.trod_int ht h
  exact ⟨_, ⟨v, rfl⟩, by simp only [All2, KR, and_true]⟩
theorem choose_list {α : Type} (n : Nat) (Q : Nat → α → Prop) (h : ∀ i, i < n → ∃ v, Q i v) : ∃ xs : List α, xs.length = n ∧ ∀ i v, xs[i]? = some v → Q i v := by
  induction n with
  | zero => exact ⟨[], rfl, fun i v hv => by simp at hv⟩
  | succ n ih =>
    obtain ⟨xs, hl, hx⟩ := ih (fun i hi => h i (by omega))
    obtain ⟨v, hv⟩ := h n (by omega)
    refine ⟨xs ++ [v], by simp [hl], fun i u hu => ?_⟩
    rcases Nat.lt_or_ge i xs.length with hi | hi
    · rw [List.getElem?_append_left hi] at hu
      exact hx i u hu
    · have : i = xs.length := by
        have := (List.getElem?_eq_some_iff.1 hu).1
        rw [List.length_append, List.length_singleton] at this
        omega
      subst this
      have : v = u := by simpa using hu
      subst this
      rw [hl]
      exact hv
theorem RCells_of {a : Addr} : ∀ {ps : List PV} {j : Nat} {us : List Value} (_ : All2 (KR (here w) w) ps us) (_ : ∀ i u, us[i]? = some u → w.cell? (a.add (j + i)) = some u), KCells (here w) w a j ps
  | [], j, us, h, hu => by simp only [KCells]
  | p :: ps, j, [], h, hu => h.elim
  | p :: ps, j, u :: us, h, hu => by
    simp only [KCells]
    have h0 := hu 0 u rfl
    rw [Nat.add_zero] at h0
    refine ⟨⟨u, h0, ?_, h.1⟩, RCells_of h.2 fun i v hv => ?_⟩
    · unfold here
      unfold World.cell? at h0
      rw [add_block] at h0
      exact Classical.byContradiction fun hc => by
        rw [Array.getElem?_eq_none (by omega)] at h0
        cases h0
    · have := hu (i + 1) v hv
      rwa [show j + (i + 1) = j + 1 + i by omega] at this
theorem RRows_of {A : Option Addr} {sz : Nat} : ∀ {xs : List (List PV)} {j : Nat} (_ : ∀ i x, xs[i]? = some x → x.length = sz ∧ ∃ a, A = some a ∧ KCells (here w) w (a.add ((j + i) * sz)) 0 x), KRows (here w) w A sz j xs
  | [], j, h => by simp only [KRows]
  | x :: xs, j, h => by
    simp only [KRows]
    have h0 := h 0 x rfl
    rw [Nat.add_zero] at h0
    refine ⟨h0, RRows_of fun i y hy => ?_⟩
    have := h (i + 1) y hy
    rwa [show j + (i + 1) = j + 1 + i by omega] at this
theorem rd_slice {t e : TypeId} {sz : Nat} {α : Type} {c : α → List PV} {G : α → Prop} (ht : P.underlying t = some (.slice e)) (hc : P.cellsOf e = sz) (hl : ∀ v, (c v).length = sz) {n : Nat} (hd : Rd enc P w n e (fun ps => ∃ v, ps = c v ∧ G v)) :
    Rd enc P w (n + 1) t (fun ps => ∃ l : List α, ps = [.arr sz (l.map c)] ∧ (∀ v ∈ l, G v) ∧ l.length < 9223372036854775808) := by
  intro fuel hf cs x h
  rcases DataW.trod_slice ht h with ⟨rfl, _⟩ | ⟨a, len, cap, elems, rest, m, rfl, rfl, _, hb, hl2, hm, hlen, hel, _, _⟩
  · refine ⟨_, ⟨[], rfl, by simp, by simp⟩, ?_⟩
    simp only [All2, KR, and_true]
    exact ⟨none, 0, rfl, Nat.le_refl _, by simp only [List.map_nil, KRows]⟩
  · have key : ∀ i, i < len → ∃ v, ∃ us, w.cells? 0 (a.add (i * sz)) sz = some us ∧ All2 (KR (here w) w) (c v) us ∧ G v := by
      intro i hi
      have h1 := hel i hi
      rw [List.getElem?_eq_getElem (by omega)] at h1
      obtain ⟨us, hcc, htr⟩ := Option.bind_eq_some_iff.1 h1
      obtain ⟨_, ⟨v, rfl, hg⟩, hv⟩ := hd m (by omega) us _ htr
      rw [hc] at hcc
      exact ⟨v, us, hcc, hv, hg⟩
    obtain ⟨xs, hxl, hxs⟩ := choose_list len _ key
    refine ⟨_, ⟨xs, rfl, fun v hv => ?_, ?_⟩, ?_⟩
    · obtain ⟨i, hi, rfl⟩ := List.getElem_of_mem hv
      obtain ⟨_, _, _, hg⟩ := hxs i xs[i] (List.getElem?_eq_getElem hi)
      exact hg
    · simp only [maxLen] at hm
      omega
    · simp only [All2, KR, and_true]
      refine ⟨some a, cap, by rw [List.length_map, hxl], by rw [List.length_map]; omega, RRows_of fun i y hy => ?_⟩
      rw [List.getElem?_map] at hy
      obtain ⟨v, hv, rfl⟩ := Option.map_eq_some_iff.1 hy
      obtain ⟨us, hcc, hu, _⟩ := hxs i v hv
      refine ⟨hl v, a, rfl, ?_⟩
      rw [Nat.zero_add]
      refine RCells_of hu fun j u hj => ?_
      have h2 := (World.cells?_some hcc).2.2 j
      have hj' : j < sz := by
        have h3 := (List.getElem?_eq_some_iff.1 hj).1
        rw [← hu.length, hl v] at h3
        exact h3
      rw [Nat.zero_add, h2 hj']
      exact hj
/-- The parts of a struct's cells. -/
theorem rd_field {n : Nat} {t : TypeId} {fs : Array Field} (ht : P.underlying t = some (.struct fs)) {fuel : Nat} (hf : fuel ≤ n + 1) {cs : List Value} {x : DataW H × List MemPlace}
    (h : DataW.trod enc P w 0 (fun _ => true) true fuel t cs = some x) :
    cs.length = P.cellsOf t ∧ ∀ (i : Nat) (f : Field), fs[i]? = some f → ∀ {s : Nat} {Q : List PV → Prop}, Rd enc P w n f.type Q → P.cellsOf f.type = s → ∃ ps, Q ps ∧ All2 (KR (here w) w) ps ((cs.drop f.offset).take s) := by
  obtain ⟨xs, m, rfl, _, hl, hlen, hx⟩ := DataW.trod_struct ht h
  refine ⟨hl, fun i f hi s Q hd hs => ?_⟩
  have h1 := hx i f hi
  have hi' : i < xs.length := by rw [hlen]; exact (Array.getElem?_eq_some_iff.1 hi).1
  rw [List.getElem?_eq_getElem hi', hs] at h1
  exact hd m (by omega) _ _ h1
theorem join_last {R : PV → Value → Prop} {ps : List PV} {cs : List Value} {o s : Nat} (hl : cs.length = o + s) (h : All2 R ps ((cs.drop o).take s)) : All2 R ps (cs.drop o) := by
  rwa [List.take_of_length_le (by rw [List.length_drop]; omega)] at h
theorem join_one {R : PV → Value → Prop} {ps qs : List PV} {cs : List Value} {o s o' : Nat} (ho : o + s = o') (h : All2 R ps ((cs.drop o).take s)) (k : All2 R qs (cs.drop o')) : All2 R (ps ++ qs) (cs.drop o) := by
  subst ho
  have := h.append k
  rwa [← List.drop_drop, List.take_append_drop] at this
end
section
variable {C : Cfg} {w : World}
def κ0 : Place := ⟨fun _ => 0, fun _ => (none, 0, 0)⟩
theorem heap0 : Heap C κ0 (here w) (memOf [] []) w := ⟨fun _ h => h, (fun k cs h => by cases h), (fun k B h => by cases h), (fun k k' h => by cases h), (fun k k' B a h => by cases h), (fun k k' B B' a a' h => by cases h)⟩
/-- A law that answers true: so it does in the model, and it leaves what was there. -/
theorem law_ends {f : FuncId} {args : List PV} {vs : Array Value} (hS : SoundAt C f args [] [] ([.bool true], [], [])) (hv : All2 (VR C κ0 (here w) (memOf [] []) w) args vs.toList) :
    Calls C.P f vs w (fun e w' => e = .returned (.bool true) ∧ Below w.heap.size w w') := by
  refine (hS.2.2 κ0 (here w) w vs heap0 hv).mono fun e w' hb => ?_
  obtain ⟨v, κ', I', rfl, _, _, hs, hr⟩ := hb
  refine ⟨?_, hs.os, hs.tape, hs.output, hs.size, fun k hk => hs.keep k hk (fun j h => by cases h) (fun j B a h => by cases h)⟩
  obtain ⟨us, hu, _, _, rfl⟩ := hr.vals
  match us, hu with
  | [u], h =>
    have h1 := h.1
    simp only [RV, RC, KR] at h1
    subst h1
    rfl
theorem arg_one {p : PV} {v : Value} (h : All2 (KR (here w) w) [p] [v]) : VR C κ0 (here w) (memOf [] []) w p v := VR.of_V1 _ _ _ _ _ (V1.of_KR _ _ _ _ _ h.1)
theorem arg_agg {ps : List PV} {cs : Array Value} (h : All2 (KR (here w) w) ps cs.toList) : VR C κ0 (here w) (memOf [] []) w (.agg ps) (.agg cs) := ⟨cs, rfl, h.mono fun _ _ h => V1.of_KR _ _ _ _ _ h⟩
end
end Go.AI
