/- How pure values stand for values of the model: each operation does in the model what it does in the interpreter. -/
import Derived.Test.YtbfochojhmggfaaGreatAiP1
import Derived.Below
import Derived.Laws.AppendOwn
import Derived.DataReads
import Derived.Laws.Rows
import Derived.Laws.Tables
import Derived.Deep.Slices
import Derived.Laws.Slices
import Derived.Laws.StructEq
import Derived.Laws.CopyRow
import Derived.Great.BuildSlice
import Derived.Laws.MakeOwn
import Derived.Room.AppendUpon
set_option linter.unusedSimpArgs false
set_option linter.unusedVariables false
/- How pure values stand for values of the model. -/
namespace Go.AI
open Go Go.RowKit
def All2 {α β : Type} (R : α → β → Prop) : List α → List β → Prop
  | [], [] => True
  | a :: x, b :: y => R a b ∧ All2 R x y
  | _, _ => False
theorem All2.length {α β : Type} {R : α → β → Prop} : ∀ {x : List α} {y : List β}, All2 R x y → x.length = y.length
  | [], [], _ => rfl
  | _ :: _, _ :: _, h => by simp [All2.length h.2]
  | [], _ :: _, h => h.elim
  | _ :: _, [], h => h.elim
theorem All2.get {α β : Type} {R : α → β → Prop} : ∀ {x : List α} {y : List β}, All2 R x y → ∀ {i : Nat} {a : α}, x[i]? = some a → ∃ b, y[i]? = some b ∧ R a b
  | a :: x, b :: y, h, 0, c, e => by
    simp only [List.getElem?_cons_zero, Option.some.injEq] at e
    subst e
    exact ⟨b, rfl, h.1⟩
  | a :: x, b :: y, h, i + 1, c, e => by
    simp only [List.getElem?_cons_succ] at e ⊢
    exact All2.get h.2 e
  | [], [], _, _, _, e => by simp at e
theorem All2.of {α β : Type} {R : α → β → Prop} : ∀ {x : List α} {y : List β}, x.length = y.length → (∀ (i : Nat) (a : α) (b : β), x[i]? = some a → y[i]? = some b → R a b) → All2 R x y
  | [], [], _, _ => trivial
  | a :: x, b :: y, h, k => ⟨k 0 a b rfl rfl, All2.of (by simpa using h) fun i c d hc hd => k (i + 1) c d (by simpa using hc) (by simpa using hd)⟩
  | [], _ :: _, h, _ => by simp at h
  | _ :: _, [], h, _ => by simp at h
theorem All2.mono {α β : Type} {R S : α → β → Prop} (hm : ∀ a b, R a b → S a b) : ∀ {x : List α} {y : List β}, All2 R x y → All2 S x y
  | [], [], _ => trivial
  | _ :: _, _ :: _, h => ⟨hm _ _ h.1, All2.mono hm h.2⟩
  | [], _ :: _, h => h.elim
  | _ :: _, [], h => h.elim
theorem All2.append {α β : Type} {R : α → β → Prop} : ∀ {x : List α} {y : List β} {x' : List α} {y' : List β}, All2 R x y → All2 R x' y' → All2 R (x ++ x') (y ++ y')
  | [], [], _, _, _, h => h
  | _ :: _, _ :: _, _, _, h, h' => ⟨h.1, All2.append h.2 h'⟩
  | [], _ :: _, _, _, h, _ => h.elim
  | _ :: _, [], _, _, h, _ => h.elim
theorem All2.drop {α β : Type} {R : α → β → Prop} (n : Nat) {x : List α} {y : List β} (h : All2 R x y) : All2 R (x.drop n) (y.drop n) := by
  refine All2.of (by simp [h.length]) fun i a b ha hb => ?_
  rw [List.getElem?_drop] at ha hb
  obtain ⟨b', hb', hr⟩ := h.get ha
  rw [hb] at hb'
  cases hb'
  exact hr
theorem All2.take {α β : Type} {R : α → β → Prop} (n : Nat) {x : List α} {y : List β} (h : All2 R x y) : All2 R (x.take n) (y.take n) := by
  refine All2.of (by simp [h.length]) fun i a b ha hb => ?_
  rw [List.getElem?_take] at ha hb
  split at ha
  · rename_i hi
    rw [if_pos hi] at hb
    obtain ⟨b', hb', hr⟩ := h.get ha
    rw [hb] at hb'
    cases hb'
    exact hr
  · cases ha

section
variable (I : Nat → Prop) (w : World)
mutual
/-- A value that stays: all memory that it names is in the blocks I. -/
def KR : PV → Value → Prop
  | .nil, v => v = .slice none 0 0
  | .int k n, v => v = .int k n
  | .bool b, v => v = .bool b
  | .str s, v => v = .string s
  | .arr sz xs, v => ∃ A cap, v = .slice A xs.length cap ∧ xs.length ≤ cap ∧ KRows A sz 0 xs
  | .fn f cap, v => cap = [] ∧ v = .func (.func f) #[] #[]
  | _, _ => False
def KRows (A : Option Addr) (sz : Nat) : Nat → List (List PV) → Prop
  | _, [] => True
  | j, el :: r => (el.length = sz ∧ ∃ a, A = some a ∧ KCells (a.add (j * sz)) 0 el) ∧ KRows A sz (j + 1) r
def KCells (p : Addr) : Nat → List PV → Prop
  | _, [] => True
  | i, c :: r => (∃ u, w.cell? (p.add i) = some u ∧ I p.block ∧ KR c u) ∧ KCells p (i + 1) r
end
end
theorem KRows_get {I : Nat → Prop} {w : World} {A : Option Addr} {sz : Nat} : ∀ {xs : List (List PV)} {j : Nat}, KRows I w A sz j xs → ∀ {i : Nat} {el : List PV}, xs[i]? = some el → el.length = sz ∧ ∃ a, A = some a ∧ KCells I w (a.add ((j + i) * sz)) 0 el
  | x :: xs, j, h, 0, el, e => by
    simp only [List.getElem?_cons_zero, Option.some.injEq] at e
    subst e
    simp only [KRows] at h
    exact h.1
  | x :: xs, j, h, i + 1, el, e => by
    simp only [List.getElem?_cons_succ] at e
    simp only [KRows] at h
    have := KRows_get h.2 e
    rw [show j + (i + 1) = j + 1 + i by omega]
    exact this
  | [], _, _, _, _, e => by simp at e
theorem KRows_of {I : Nat → Prop} {w : World} {A : Option Addr} {sz : Nat} : ∀ {xs : List (List PV)} {j : Nat}, (∀ (i : Nat) (el : List PV), xs[i]? = some el → el.length = sz ∧ ∃ a, A = some a ∧ KCells I w (a.add ((j + i) * sz)) 0 el) → KRows I w A sz j xs
  | [], _, _ => by simp only [KRows]
  | x :: xs, j, h => by
    simp only [KRows]
    refine ⟨h 0 x rfl, KRows_of fun i el e => ?_⟩
    have := h (i + 1) el (by simpa using e)
    rw [show j + 1 + i = j + (i + 1) by omega]
    exact this
theorem KCells_get {I : Nat → Prop} {w : World} {p : Addr} : ∀ {cs : List PV} {j : Nat}, KCells I w p j cs → ∀ {i : Nat} {c : PV}, cs[i]? = some c → ∃ u, w.cell? (p.add (j + i)) = some u ∧ I p.block ∧ KR I w c u
  | c :: cs, j, h, 0, x, e => by
    simp only [List.getElem?_cons_zero, Option.some.injEq] at e
    subst e
    simp only [KCells] at h
    exact h.1
  | c :: cs, j, h, i + 1, x, e => by
    simp only [List.getElem?_cons_succ] at e
    simp only [KCells] at h
    have := KCells_get h.2 e
    rw [show j + (i + 1) = j + 1 + i by omega]
    exact this
  | [], _, _, _, _, e => by simp at e
theorem KCells_of {I : Nat → Prop} {w : World} {p : Addr} : ∀ {cs : List PV} {j : Nat}, (∀ (i : Nat) (c : PV), cs[i]? = some c → ∃ u, w.cell? (p.add (j + i)) = some u ∧ I p.block ∧ KR I w c u) → KCells I w p j cs
  | [], _, _ => by simp only [KCells]
  | c :: cs, j, h => by
    simp only [KCells]
    refine ⟨h 0 c rfl, KCells_of fun i x e => ?_⟩
    have := h (i + 1) x (by simpa using e)
    rw [show j + 1 + i = j + (i + 1) by omega]
    exact this
theorem cell_of_block {w w' : World} {p : Addr} (h : w'.heap[p.block]? = w.heap[p.block]?) : w'.cell? p = w.cell? p := by
  unfold World.cell?
  rw [h]
theorem add_block (p : Addr) (n : Nat) : (p.add n).block = p.block := by unfold Addr.add; split <;> rfl
mutual
theorem KR_mono {I I' : Nat → Prop} {w w' : World} (hI : ∀ i, I i → I' i) (hw : ∀ i, I i → w'.heap[i]? = w.heap[i]?) : ∀ {c : PV} {v : Value}, KR I w c v → KR I' w' c v
  | .arr sz xs, v, h => by
    simp only [KR] at h ⊢
    obtain ⟨A, cap, h1, h2, h3⟩ := h
    exact ⟨A, cap, h1, h2, KRows_mono hI hw h3⟩
  | .nil, v, h => by simpa only [KR] using h
  | .int k n, v, h => by simpa only [KR] using h
  | .bool b, v, h => by simpa only [KR] using h
  | .str s, v, h => by simpa only [KR] using h
  | .fn f cap, v, h => by simpa only [KR] using h
  | .undef, v, h => by simp only [KR] at h
  | .skip, v, h => by simp only [KR] at h
  | .oarr _ _, v, h => by simp only [KR] at h
  | .ref _ _ _ _, v, h => by simp only [KR] at h
  | .ptr _ _, v, h => by simp only [KR] at h
  | .eptr _ _ _ _, v, h => by simp only [KR] at h
  | .cptr _ _, v, h => by simp only [KR] at h
  | .optr _, v, h => by simp only [KR] at h
  | .agg _, v, h => by simp only [KR] at h
  | .tup _, v, h => by simp only [KR] at h
theorem KRows_mono {I I' : Nat → Prop} {w w' : World} (hI : ∀ i, I i → I' i) (hw : ∀ i, I i → w'.heap[i]? = w.heap[i]?) {A : Option Addr} {sz : Nat} : ∀ {xs : List (List PV)} {j : Nat}, KRows I w A sz j xs → KRows I' w' A sz j xs
  | [], _, _ => by simp only [KRows]
  | x :: xs, j, h => by
    simp only [KRows] at h ⊢
    obtain ⟨⟨h1, a, h2, h3⟩, h4⟩ := h
    exact ⟨⟨h1, a, h2, KCells_mono hI hw h3⟩, KRows_mono hI hw h4⟩
theorem KCells_mono {I I' : Nat → Prop} {w w' : World} (hI : ∀ i, I i → I' i) (hw : ∀ i, I i → w'.heap[i]? = w.heap[i]?) {p : Addr} : ∀ {cs : List PV} {j : Nat}, KCells I w p j cs → KCells I' w' p j cs
  | [], _, _ => by simp only [KCells]
  | c :: cs, j, h => by
    simp only [KCells] at h ⊢
    obtain ⟨⟨u, h1, h2, h3⟩, h4⟩ := h
    refine ⟨⟨u, ?_, hI _ h2, KR_mono hI hw h3⟩, KCells_mono hI hw h4⟩
    rw [cell_of_block (w := w) (by rw [add_block]; exact hw _ h2)]
    exact h1
end

/-- Where boxes and blocks lie. -/
structure Place where
  box : Nat → Nat
  blk : Nat → Option Addr × Nat × Nat
section
variable (C : Cfg) (κ : Place) (I : Nat → Prop) (L : Look) (w : World)
/-- An address as a function value holds it. -/
def VP : PV → Value → Prop
  | .ptr k off, v => (L.b k).isSome ∧ v = .pointer (some ⟨κ.box k, off, none⟩)
  | .cptr cs off, v => ∃ p, v = .pointer (some (p.add off)) ∧ KCells I w p 0 cs
  | _, _ => False
/-- A value of one cell. -/
def V1 : PV → Value → Prop
  | .undef, v => v.oneCell' = true
  | .ref k off len ver, v => ∃ B A cap, L.m k = some B ∧ v = .slice A len cap ∧ ver ≤ B.n ∧ (ver = B.n → (κ.blk k).2.2 ≤ off ∧ off + len ≤ B.n ∧ cap = (κ.blk k).2.1 - (off - (κ.blk k).2.2) ∧ (0 < len ∨ 0 < cap → ∃ a, (κ.blk k).1 = some a ∧ A = some (a.add ((off - (κ.blk k).2.2) * (C.ty B.e).sz))) ∧ (off = (κ.blk k).2.2 → A = (κ.blk k).1))
  | .ptr k off, v => VP κ I L w (.ptr k off) v
  | .eptr k i off ver, v => ∃ B p, L.m k = some B ∧ v = .pointer (some p) ∧ ver ≤ B.n ∧ (ver = B.n → (κ.blk k).2.2 ≤ i ∧ i < B.n ∧ ∃ a, (κ.blk k).1 = some a ∧ p = (a.add ((i - (κ.blk k).2.2) * (C.ty B.e).sz)).add off)
  | .cptr cs off, v => VP κ I L w (.cptr cs off) v
  | .fn f cap, v => ∃ vs, v = .func (.func f) #[] vs ∧ All2 (VP κ I L w) cap vs.toList
  | c, v => KR I w c v
def VA : PV → Value → Prop
  | .agg cs, v => ∃ vs, v = .agg vs ∧ All2 (V1 C κ I L w) cs vs.toList
  | c, v => V1 C κ I L w c v
def VR : PV → Value → Prop
  | .undef, _ => True
  | .skip, v => v = Go.undef
  | .tup ps, v => ∃ vs, v = .tuple vs ∧ All2 (VA C κ I L w) ps vs.toList
  | c, v => VA C κ I L w c v
theorem V1.of_KR {c : PV} {v : Value} (h : KR I w c v) : V1 C κ I L w c v := by
  cases c with
  | fn f cap =>
    simp only [KR] at h
    obtain ⟨rfl, rfl⟩ := h
    exact ⟨#[], rfl, trivial⟩
  | undef => simp only [KR] at h
  | skip => simp only [KR] at h
  | ref _ _ _ _ => simp only [KR] at h
  | ptr _ _ => simp only [KR] at h
  | eptr _ _ _ _ => simp only [KR] at h
  | cptr _ _ => simp only [KR] at h
  | _ => exact h
theorem VA.of_V1 {c : PV} {v : Value} (h : V1 C κ I L w c v) : VA C κ I L w c v := by
  cases c with
  | agg cs => simp only [V1, KR] at h
  | _ => exact h
theorem VR.of_VA {c : PV} {v : Value} (h : VA C κ I L w c v) : VR C κ I L w c v := by
  cases c with
  | tup cs => simp only [VA, V1, KR] at h
  | undef => trivial
  | skip => simp only [VA, V1, KR] at h
  | _ => exact h
theorem VR.of_V1 {c : PV} {v : Value} (h : V1 C κ I L w c v) : VR C κ I L w c v := .of_VA C κ I L w (.of_V1 C κ I L w h)
end
/-- What is left as it was by what was done: for values to go on standing. -/
structure Goes (C : Cfg) (κ κ' : Place) (I I' : Nat → Prop) (L L' : Look) (w w' : World) : Prop where
  imm : ∀ i, I i → I' i
  mem : ∀ i, I i → w'.heap[i]? = w.heap[i]?
  box : ∀ k, (L.b k).isSome → (L'.b k).isSome ∧ κ'.box k = κ.box k
  blk : ∀ k B, L.m k = some B → ∃ B', L'.m k = some B' ∧ B'.e = B.e ∧ B.n ≤ B'.n ∧ (B'.n = B.n → κ'.blk k = κ.blk k)
section
variable {C : Cfg} {κ κ' : Place} {I I' : Nat → Prop} {L L' : Look} {w w' : World}
theorem VP.go (h : Goes C κ κ' I I' L L' w w') {c : PV} {v : Value} (hv : VP κ I L w c v) : VP κ' I' L' w' c v := by
  cases c with
  | ptr k off => exact ⟨(h.box k hv.1).1, by rw [(h.box k hv.1).2]; exact hv.2⟩
  | cptr cs off =>
    obtain ⟨p, h1, h2⟩ := hv
    exact ⟨p, h1, KCells_mono h.imm h.mem h2⟩
  | _ => exact hv.elim
theorem V1.go (h : Goes C κ κ' I I' L L' w w') {c : PV} {v : Value} (hv : V1 C κ I L w c v) : V1 C κ' I' L' w' c v := by
  cases c with
  | undef => exact hv
  | skip => simp only [V1, KR] at hv
  | ref k off len ver =>
    obtain ⟨B, A, cap, h1, h2, h3, h4⟩ := hv
    obtain ⟨B', b1, b2, b3, b4⟩ := h.blk k B h1
    refine ⟨B', A, cap, b1, h2, by omega, fun e => ?_⟩
    have e' : B'.n = B.n := by omega
    rw [b4 e', b2, e']
    exact h4 (by omega)
  | eptr k i off ver =>
    obtain ⟨B, p, h1, h2, h3, h4⟩ := hv
    obtain ⟨B', b1, b2, b3, b4⟩ := h.blk k B h1
    refine ⟨B', p, b1, h2, by omega, fun e => ?_⟩
    have e' : B'.n = B.n := by omega
    rw [b4 e', b2, e']
    exact h4 (by omega)
  | ptr k off => exact VP.go h (c := .ptr k off) hv
  | cptr cs off => exact VP.go h (c := .cptr cs off) hv
  | fn f cap =>
    obtain ⟨vs, h1, h2⟩ := hv
    exact ⟨vs, h1, h2.mono fun a b hab => VP.go h hab⟩
  | nil => exact KR_mono h.imm h.mem (c := .nil) hv
  | int k n => exact KR_mono h.imm h.mem (c := .int k n) hv
  | bool b => exact KR_mono h.imm h.mem (c := .bool b) hv
  | str s => exact KR_mono h.imm h.mem (c := .str s) hv
  | arr s x => exact KR_mono h.imm h.mem (c := .arr s x) hv
  | oarr s x => simp only [V1, KR] at hv
  | optr s => simp only [V1, KR] at hv
  | agg s => simp only [V1, KR] at hv
  | tup s => simp only [V1, KR] at hv
theorem VA.go (h : Goes C κ κ' I I' L L' w w') {c : PV} {v : Value} (hv : VA C κ I L w c v) : VA C κ' I' L' w' c v := by
  cases c with
  | agg cs =>
    obtain ⟨vs, h1, h2⟩ := hv
    exact ⟨vs, h1, h2.mono fun a b hab => V1.go h hab⟩
  | undef => exact V1.go h (c := .undef) (v := v) hv
  | skip => exact V1.go h (c := .skip) (v := v) hv
  | nil => exact V1.go h (c := .nil) (v := v) hv
  | int k n => exact V1.go h (c := .int k n) (v := v) hv
  | bool b => exact V1.go h (c := .bool b) (v := v) hv
  | str s => exact V1.go h (c := .str s) (v := v) hv
  | arr s x => exact V1.go h (c := .arr s x) (v := v) hv
  | oarr s x => exact V1.go h (c := .oarr s x) (v := v) hv
  | ref k o l ver => exact V1.go h (c := .ref k o l ver) (v := v) hv
  | ptr k o => exact V1.go h (c := .ptr k o) (v := v) hv
  | eptr k i o ver => exact V1.go h (c := .eptr k i o ver) (v := v) hv
  | cptr c o => exact V1.go h (c := .cptr c o) (v := v) hv
  | optr c => exact V1.go h (c := .optr c) (v := v) hv
  | fn g c => exact V1.go h (c := .fn g c) (v := v) hv
  | tup x => exact V1.go h (c := .tup x) (v := v) hv
theorem VR.go (h : Goes C κ κ' I I' L L' w w') {c : PV} {v : Value} (hv : VR C κ I L w c v) : VR C κ' I' L' w' c v := by
  cases c with
  | tup cs =>
    obtain ⟨vs, h1, h2⟩ := hv
    exact ⟨vs, h1, h2.mono fun a b hab => VA.go h hab⟩
  | agg x => exact VA.go h (c := .agg x) (v := v) hv
  | undef => trivial
  | skip => exact hv
  | nil => exact VA.go h (c := .nil) (v := v) hv
  | int k n => exact VA.go h (c := .int k n) (v := v) hv
  | bool b => exact VA.go h (c := .bool b) (v := v) hv
  | str s => exact VA.go h (c := .str s) (v := v) hv
  | arr s x => exact VA.go h (c := .arr s x) (v := v) hv
  | oarr s x => exact VA.go h (c := .oarr s x) (v := v) hv
  | ref k o l ver => exact VA.go h (c := .ref k o l ver) (v := v) hv
  | ptr k o => exact VA.go h (c := .ptr k o) (v := v) hv
  | eptr k i o ver => exact VA.go h (c := .eptr k i o ver) (v := v) hv
  | cptr c o => exact VA.go h (c := .cptr c o) (v := v) hv
  | optr c => exact VA.go h (c := .optr c) (v := v) hv
  | fn g c => exact VA.go h (c := .fn g c) (v := v) hv
end
/-- What the table tells of a type is so. -/
structure TOk (C : Cfg) (good : TypeId → Bool) (t : TypeId) : Prop where
  info : ∃ i, C.P.info? t = some i ∧ i.size = (C.ty t).sz ∧ i.bytes = (C.ty t).bytes
  und : ∃ d, C.P.underlying t = some d ∧ (C.ty t).agg = (match d with | .struct _ | .array _ _ => true | _ => false)
  slc : (C.ty t).slc = true → C.P.underlying t = some (.slice (C.ty t).elem) ∧ good (C.ty t).elem = true
  alen : ∀ n, (C.ty t).alen = some n → C.P.underlying t = some (.array n (C.ty t).elem) ∧ good (C.ty t).elem = true ∧ (C.ty t).sz = n * (C.ty (C.ty t).elem).sz
  offs : ∀ (i o : Nat), (C.ty t).offs[i]? = some o → ∃ fs f j, C.P.underlying t = some (.struct fs) ∧ fs[i]? = some f ∧ f.offset = o ∧ C.P.info? f.type = some j ∧ j.size ≠ 0 ∧ (C.ty t).fsz[i]? = some j.size ∧ good f.type = true ∧ (C.ty t).fagg[i]? = some (C.ty f.type).agg
  ik : ∀ k, (C.ty t).ik = some k → C.P.underlying t = some (.int k)
  st : (C.ty t).st = true → C.P.underlying t = some .string
  zero : (C.ty t).zero.length = (C.ty t).sz → ∃ i z, C.P.info? t = some i ∧ i.zero = some z ∧ All2 (fun c v => (c = PV.undef ∧ v.oneCell' = true) ∨ ∀ I w, KR I w c v) (C.ty t).zero z.cells.toList
/-- What is told of a type for '=='. -/
structure EqOk (C : Cfg) (t : TypeId) : Prop where
  bl : (C.ty t).bl = true → C.P.underlying t = some .bool
  eqi : (C.ty t).eqi = true → ∃ fs, C.P.underlying t = some (.struct fs) ∧ C.P.stoodInHeld t = false ∧ C.P.eqGuardType C.P.depth t = false ∧ fs.size = (C.ty t).sz ∧ ∀ (i : Nat) (f : Field), fs[i]? = some f → f.offset = i ∧ f.name ≠ "_" ∧ ∃ k, C.P.underlying f.type = some (.int k)
def Types (C : Cfg) (good : TypeId → Bool) : Prop := ∀ t, good t = true → TOk C good t
/-- Memory stands as it is told. -/
structure Mem (C : Cfg) (κ : Place) (I : Nat → Prop) (L : Look) (w : World) : Prop where
  box : ∀ k cs, L.b k = some cs → ∃ vs e, w.heap[κ.box k]? = some (.cells vs e (0, 0)) ∧ All2 (V1 C κ I L w) cs vs.toList
  blk : ∀ k B, L.m k = some B → B.xs.length = B.n ∧ ∀ (i : Nat) (el : List PV), (κ.blk k).2.2 ≤ i → B.xs[i]? = some el → el.length = (C.ty B.e).sz ∧ ∃ a, (κ.blk k).1 = some a ∧ ∀ (j : Nat) (c : PV), el[j]? = some c → ∃ u, w.cell? ((a.add ((i - (κ.blk k).2.2) * (C.ty B.e).sz)).add j) = some u ∧ KR I w c u
end Go.AI
/- What the interpreter's reading operations give is what the model's operations give. -/
namespace Go.AI
open Go Go.RowKit Go.AI
section
variable {C : Cfg} {good : TypeId → Bool} {κ : Place} {I : Nat → Prop} {L : Look} {w : World}
theorem VR.int {k : IntKind} {n : Int} {v : Value} (h : VR C κ I L w (.int k n) v) : v = .int k n := by simpa only [VR, VA, V1, KR] using h
theorem VR.bool {b : Bool} {v : Value} (h : VR C κ I L w (.bool b) v) : v = .bool b := by simpa only [VR, VA, V1, KR] using h
theorem VR.str {s : ByteArray} {v : Value} (h : VR C κ I L w (.str s) v) : v = .string s := by simpa only [VR, VA, V1, KR] using h
theorem VR.nil {v : Value} (h : VR C κ I L w .nil v) : v = .slice none 0 0 := by simpa only [VR, VA, V1, KR] using h
theorem VR.mk_int (k : IntKind) (n : Int) : VR C κ I L w (.int k n) (.int k n) := by simp only [VR, VA, V1, KR]
theorem VR.mk_bool (b : Bool) : VR C κ I L w (.bool b) (.bool b) := by simp only [VR, VA, V1, KR]
theorem VR.mk_str (s : ByteArray) : VR C κ I L w (.str s) (.string s) := by simp only [VR, VA, V1, KR]
/-- A value's cells. -/
theorem VA.cells {c : PV} {v : Value} (h : VA C κ I L w c v) : All2 (V1 C κ I L w) (cellsOf c) v.cells.toList := by
  cases c with
  | agg cs =>
    obtain ⟨vs, rfl, h2⟩ := h
    exact h2
  | undef =>
    have h' : v.oneCell' = true := h
    cases v with
    | agg _ => cases h'
    | tuple _ => cases h'
    | _ => exact ⟨h, trivial⟩
  | skip => simp only [VA, V1, KR] at h
  | nil => simp only [VA, V1, KR] at h; subst h; exact ⟨by simp only [V1, KR], trivial⟩
  | int k n => simp only [VA, V1, KR] at h; subst h; exact ⟨by simp only [V1, KR], trivial⟩
  | bool b => simp only [VA, V1, KR] at h; subst h; exact ⟨by simp only [V1, KR], trivial⟩
  | str s => simp only [VA, V1, KR] at h; subst h; exact ⟨by simp only [V1, KR], trivial⟩
  | arr s x =>
    have h' := h
    simp only [VA, V1, KR] at h
    obtain ⟨A, cap, rfl, _⟩ := h
    exact ⟨h', trivial⟩
  | ref k o l ver =>
    have h' := h
    obtain ⟨B, A, cap, _, rfl, _⟩ := h
    exact ⟨h', trivial⟩
  | ptr k o => have h' := h; obtain ⟨_, rfl⟩ := h; exact ⟨h', trivial⟩
  | eptr k i o ver => have h' := h; obtain ⟨B, p, _, rfl, _⟩ := h; exact ⟨h', trivial⟩
  | cptr cs o => have h' := h; obtain ⟨p, rfl, _⟩ := h; exact ⟨h', trivial⟩
  | fn g cap => have h' := h; obtain ⟨vs, rfl, _⟩ := h; exact ⟨h', trivial⟩
  | oarr s x => simp only [VA, V1, KR] at h
  | optr s => simp only [VA, V1, KR] at h
  | tup s => simp only [VA, V1, KR] at h
/-- No cell of a struct is itself a struct. -/
theorem V1.oneCell {c : PV} {v : Value} (h : V1 C κ I L w c v) : v.oneCell' = true := by
  cases c with
  | undef => exact h
  | skip => simp only [V1, KR] at h
  | nil => simp only [V1, KR] at h; subst h; rfl
  | int k n => simp only [V1, KR] at h; subst h; rfl
  | bool b => simp only [V1, KR] at h; subst h; rfl
  | str s => simp only [V1, KR] at h; subst h; rfl
  | arr s x => simp only [V1, KR] at h; obtain ⟨A, cap, rfl, _⟩ := h; rfl
  | ref k o l ver => obtain ⟨B, A, cap, _, rfl, _⟩ := h; rfl
  | ptr k o => obtain ⟨_, rfl⟩ := h; rfl
  | eptr k i o ver => obtain ⟨B, p, _, rfl, _⟩ := h; rfl
  | cptr cs o => obtain ⟨p, rfl, _⟩ := h; rfl
  | fn g cap => obtain ⟨vs, rfl, _⟩ := h; rfl
  | oarr s x => simp only [V1, KR] at h
  | optr s => simp only [V1, KR] at h
  | agg s => simp only [V1, KR] at h
  | tup s => simp only [V1, KR] at h
theorem VR.VA {c : PV} {v : Value} (h : VR C κ I L w c v) (hv : isVal c = true) : VA C κ I L w c v := by
  cases c with
  | undef => cases hv
  | skip => cases hv
  | tup _ => cases hv
  | _ => exact h

theorem ofCell_V1 (v : Value) (h1 : v.oneCell' = true) : V1 C κ I L w (ofCell v) v := by
  unfold ofCell
  split <;> first | exact h1 | simp only [V1, KR]
theorem ofCell_known (v : Value) : ofCell v ≠ .undef → V1 C κ I L w (ofCell v) v := by
  unfold ofCell
  split <;> intro h <;> first | exact absurd rfl h | simp only [V1, KR]
theorem ofConst_VR (v : Value) : VR C κ I L w (ofConst v) v := by
  unfold ofConst
  split
  · rename_i cs
    split
    · rename_i h
      refine ⟨cs, rfl, ?_⟩
      refine All2.of (by simp) fun i a b ha hb => ?_
      rw [List.getElem?_map, hb] at ha
      simp only [Option.map_some, Option.some.injEq] at ha
      subst ha
      rw [List.all_eq_true] at h
      have h1 := h (ofCell b) (List.mem_map.2 ⟨b, List.mem_of_getElem? hb, rfl⟩)
      exact ofCell_known b fun e => by rw [e] at h1; cases h1
    · trivial
  · unfold ofCell
    split <;> simp only [VR, VA, V1, KR]

theorem runUnd {t : TypeId} {d : TypeDesc} (h : C.P.underlying t = some d) : (underlying t).run C.P w = .ok d w := run_underlying h w
theorem runSize {t : TypeId} (h : TOk C good t) : (sizeOf t).run C.P w = .ok (C.ty t).sz w := by
  obtain ⟨i, h1, h2, _⟩ := h.info
  simp [sizeOf, typeInfo, h1, h2]
theorem runAgg {t : TypeId} (h : TOk C good t) : (isAgg t).run C.P w = .ok (C.ty t).agg w := by
  obtain ⟨d, h1, h2⟩ := h.und
  unfold isAgg
  rw [Sem.run_bind, runUnd h1, Result.andThen_ok, h2]
  cases d <;> rfl
theorem add_add' (a : Addr) (i j : Nat) : (a.add i).add j = a.add (i + j) := Go.Deep.add_add a i j
/-- Cells that are read from an address on. -/
theorem loadVar_ok {t : TypeId} (hT : TOk C good t) {p : Addr} {cs : List PV} {vs : List Value} {v : PV} (h2 : All2 (V1 C κ I L w) cs vs) (hl : cs.length = (C.ty t).sz) (hc : ∀ (j : Nat) (u : Value), vs[j]? = some u → w.cell? (p.add j) = some u) (hv : mk (C.ty t).agg cs = some v) :
    ∃ v', (loadVar t p).run C.P w = .ok v' w ∧ VR C κ I L w v v' := by
  have hlv : vs.length = (C.ty t).sz := by rw [← h2.length, hl]
  have hload : (loadCells p (C.ty t).sz).run C.P w = .ok vs.toArray w := by rw [← hlv]; exact run_loadCells_list w p vs hc
  unfold loadVar
  rw [Sem.run_bind, runAgg hT, Result.andThen_ok]
  unfold mk at hv
  cases hag : (C.ty t).agg with
  | true =>
    rw [hag, if_pos rfl] at hv
    cases hv
    simp only [if_true, Sem.run_bind, runSize hT, Result.andThen_ok, hload, Sem.run_pure]
    exact ⟨_, rfl, vs.toArray, rfl, h2⟩
  | false =>
    rw [hag, if_neg (by simp)] at hv
    match cs, vs, h2, hv, hc with
    | [c], [u], h2, hv, hc =>
      cases hv
      have h0 := hc 0 u rfl
      have hp : p.add 0 = p := rfl
      rw [hp] at h0
      simp only [Bool.false_eq_true, if_false, run_load, h0]
      exact ⟨u, rfl, .of_V1 C κ I L w h2.1⟩
theorem cut_some {cs new : List PV} {off n : Nat} (h : cut cs off n = some new) : off + n ≤ cs.length ∧ new = (cs.drop off).take n := by
  unfold cut at h
  split at h
  · cases h; exact ⟨by assumption, rfl⟩
  · cases h
theorem KCells_cells {p : Addr} {cs : List PV} (h : KCells I w p 0 cs) : ∃ vs : List Value, All2 (KR I w) cs vs ∧ ∀ (j : Nat) (u : Value), vs[j]? = some u → w.cell? (p.add j) = some u := by
  have key : ∀ (cs : List PV) (i : Nat), KCells I w p i cs → ∃ vs : List Value, All2 (KR I w) cs vs ∧ ∀ (j : Nat) (u : Value), vs[j]? = some u → w.cell? (p.add (i + j)) = some u := by
    intro cs
    induction cs with
    | nil => intro i _; exact ⟨[], trivial, fun j u e => by simp at e⟩
    | cons c cs ih =>
      intro i h
      simp only [KCells] at h
      obtain ⟨⟨u, h1, _, h2⟩, h3⟩ := h
      obtain ⟨vs, h4, h5⟩ := ih (i + 1) h3
      refine ⟨u :: vs, ⟨h2, h4⟩, fun j x e => ?_⟩
      cases j with
      | zero => simp only [List.getElem?_cons_zero, Option.some.injEq] at e; subst e; exact h1
      | succ j => simp only [List.getElem?_cons_succ] at e; have := h5 j x e; rwa [show i + (j + 1) = i + 1 + j by omega]
  obtain ⟨vs, h1, h2⟩ := key cs 0 h
  exact ⟨vs, h1, fun j u e => by have := h2 j u e; rwa [Nat.zero_add] at this⟩
/-- A read through an address. -/
theorem loadAt_ok {t : TypeId} (hT : TOk C good t) (hm : Mem C κ I L w) {p : PV} {pv : Value} {v : PV} (hp : VR C κ I L w p pv) (h : loadAt C L t p = some v) :
    ∃ v', (Instr.loadAt t pv).run C.P w = .ok v' w ∧ VR C κ I L w v v' := by
  cases p with
  | ptr k off =>
    obtain ⟨_, rfl⟩ := hp
    simp only [loadAt] at h
    obtain ⟨cs, h1, h2⟩ := Option.bind_eq_some_iff.1 h
    obtain ⟨cs0, h3, h4⟩ := Option.bind_eq_some_iff.1 h1
    obtain ⟨h5, rfl⟩ := cut_some h4
    obtain ⟨vs, e, h6, h7⟩ := hm.box k cs0 h3
    have h8 := (h7.drop off).take (C.ty t).sz
    simp only [Instr.loadAt, Instr.sureAddr, Sem.run_bind, Sem.run_pure, Result.andThen_ok]
    refine loadVar_ok hT h8 (by rw [List.length_take, List.length_drop]; omega) (fun j u e' => ?_) h2
    rw [List.getElem?_take] at e'
    split at e'
    · rw [List.getElem?_drop, Array.getElem?_toList] at e'
      have : (⟨κ.box k, off, none⟩ : Addr).add j = ⟨κ.box k, off + j, none⟩ := by unfold Addr.add; split <;> simp_all
      rw [this]
      simp only [World.cell?, h6, Option.isSome_none, Bool.false_eq_true, if_false]
      exact e'
    · cases e'
  | eptr k i off ver =>
    obtain ⟨B, p, h0, rfl, h1, h2⟩ := hp
    simp only [loadAt, h0, Option.bind_some] at h
    obtain ⟨cs, h3, h4⟩ := Option.bind_eq_some_iff.1 h
    split at h3
    · rename_i hver
      obtain ⟨el, h5, h6⟩ := Option.bind_eq_some_iff.1 h3
      obtain ⟨h7, rfl⟩ := cut_some h6
      obtain ⟨hlo, hi, a, ha, rfl⟩ := h2 hver
      obtain ⟨_, h8⟩ := hm.blk k B h0
      obtain ⟨_, a', ha', h9⟩ := h8 i el hlo h5
      rw [ha] at ha'
      cases ha'
      have hch : ∃ vs : List Value, vs.length = (C.ty t).sz ∧ ∀ j, j < (C.ty t).sz → ∃ c u, el[off + j]? = some c ∧ vs[j]? = some u ∧ w.cell? (((a.add ((i - (κ.blk k).2.2) * (C.ty B.e).sz)).add off).add j) = some u ∧ KR I w c u := by
        have : ∀ j, j < (C.ty t).sz → ∃ u, ∃ c, el[off + j]? = some c ∧ w.cell? (((a.add ((i - (κ.blk k).2.2) * (C.ty B.e).sz)).add off).add j) = some u ∧ KR I w c u := by
          intro j hj
          have hlt : off + j < el.length := by omega
          obtain ⟨u, hu1, hu2⟩ := h9 (off + j) el[off + j] (List.getElem?_eq_getElem hlt)
          refine ⟨u, el[off + j], List.getElem?_eq_getElem hlt, ?_, hu2⟩
          rw [add_add']
          exact hu1
        clear h9 h4
        revert this
        generalize (C.ty t).sz = n
        intro this
        refine ⟨(List.range n).map fun j => if hj : j < n then (this j hj).choose else undef, by simp, fun j hj => ?_⟩
        obtain ⟨c, hc1, hc2, hc3⟩ := (this j hj).choose_spec
        refine ⟨c, _, hc1, ?_, hc2, hc3⟩
        rw [List.getElem?_map, List.getElem?_range hj]
        simp only [Option.map_some, hj, dif_pos]
      obtain ⟨vs, hl, hvs⟩ := hch
      simp only [Instr.loadAt, Instr.sureAddr, Sem.run_bind, Sem.run_pure, Result.andThen_ok]
      refine loadVar_ok hT (cs := (el.drop off).take (C.ty t).sz) (vs := vs) (All2.of (by rw [List.length_take, List.length_drop]; omega) fun j c u hc hu => ?_) (by rw [List.length_take, List.length_drop]; omega) (fun j u hu => ?_) h4
      · rw [List.getElem?_take] at hc
        split at hc
        · rename_i hj
          obtain ⟨c', u', e1, e2, _, e3⟩ := hvs j hj
          rw [List.getElem?_drop, e1] at hc
          rw [e2] at hu
          cases hc
          cases hu
          exact .of_KR C κ I L w e3
        · cases hc
      · have hj : j < (C.ty t).sz := by
          have := (List.getElem?_eq_some_iff.1 hu).1
          omega
        obtain ⟨c', u', e1, e2, e4, e3⟩ := hvs j hj
        rw [e2] at hu
        cases hu
        exact e4
    · cases h3
  | cptr cs off =>
    obtain ⟨p, rfl, h1⟩ := hp
    simp only [loadAt] at h
    obtain ⟨cs', h2, h3⟩ := Option.bind_eq_some_iff.1 h
    obtain ⟨h4, rfl⟩ := cut_some h2
    obtain ⟨vs, h5, h6⟩ := KCells_cells h1
    have h8 := ((h5.mono fun a b hab => V1.of_KR C κ I L w hab).drop off).take (C.ty t).sz
    simp only [Instr.loadAt, Instr.sureAddr, Sem.run_bind, Sem.run_pure, Result.andThen_ok]
    refine loadVar_ok hT h8 (by rw [List.length_take, List.length_drop]; omega) (fun j u e' => ?_) h3
    rw [List.getElem?_take] at e'
    split at e'
    · rw [List.getElem?_drop] at e'
      rw [add_add']
      exact h6 _ _ e'
    · cases e'
  | _ => simp only [loadAt] at h; cases h
end
end Go.AI
/- The operations that read: one by one. -/
namespace Go.AI
open Go Go.RowKit
section
variable {C : Cfg} {good : TypeId → Bool} {κ : Place} {I : Nat → Prop} {L : Look} {w : World} {ρ : Operand → Value} {o : Oper} {v : PV}
/-- The operation gives a value that stands for v, and leaves the world alone. -/
def Gives (C : Cfg) (κ : Place) (I : Nat → Prop) (L : Look) (w : World) (ρ : Operand → Value) (o : Oper) (v : PV) : Prop := ∃ v', (execOp ρ o).run C.P w = .ok (.value v') w ∧ VR C κ I L w v v'
theorem Gives.of {s : Sem Value} {v' : Value} (he : execOp ρ o = (do pure (.value (← s)))) (hs : s.run C.P w = .ok v' w) (hv : VR C κ I L w v v') : Gives C κ I L w ρ o v :=
  ⟨v', by rw [he, Sem.run_bind, hs, Result.andThen_ok, Sem.run_pure], hv⟩
theorem move_ok {x : Operand} (ho : o.op = .move x) (hρ : ∀ x, VR C κ I L w (ev C L x) (ρ x)) : Gives C κ I L w ρ o (ev C L x) := ⟨ρ x, by unfold execOp; rw [ho]; rfl, hρ x⟩
theorem assign_ok {x : Operand} (ho : o.op = .assign x) (hρ : ∀ x, VR C κ I L w (ev C L x) (ρ x)) : Gives C κ I L w ρ o (ev C L x) := ⟨ρ x, by unfold execOp; rw [ho]; rfl, hρ x⟩
theorem pick_ok {c x y : Operand} (ho : o.op = .pick c x y) (hρ : ∀ x, VR C κ I L w (ev C L x) (ρ x)) (h : pureOp C L o.op = some v) : Gives C κ I L w ρ o v := by
  rw [ho] at h
  simp only [pureOp] at h
  have hc := hρ c
  cases hb : ev C L c with
  | bool b =>
    rw [hb] at h hc
    cases h
    have hc' := VR.bool hc
    refine ⟨if b then ρ x else ρ y, ?_, by cases b <;> simp [hρ]⟩
    unfold execOp
    rw [ho]
    simp [hc', asBool]
  | _ => rw [hb] at h; cases h
theorem load_ok {t : TypeId} {x : Operand} (hT : TOk C good t) (hm : Mem C κ I L w) (ho : o.op = .load t x) (hρ : ∀ x, VR C κ I L w (ev C L x) (ρ x)) (h : pureOp C L o.op = some v) : Gives C κ I L w ρ o v := by
  rw [ho] at h
  obtain ⟨v', h1, h2⟩ := loadAt_ok hT hm (hρ x) h
  exact Gives.of (by unfold execOp; rw [ho]) h1 h2
/-- An address moved on within its object. -/
theorem movePtr_ok {d : Nat} {p v : PV} {pv : Value} (hp : VR C κ I L w p pv) (h : movePtr d p = some v) : ∃ a, pv = .pointer (some a) ∧ VR C κ I L w v (.pointer (some (a.add d))) := by
  cases p with
  | ptr k off =>
    cases h
    obtain ⟨h1, rfl⟩ := hp
    refine ⟨_, rfl, h1, ?_⟩
    unfold Addr.add
    split <;> simp_all
  | eptr k i off ver =>
    cases h
    obtain ⟨B, p, h0, rfl, h1, h2⟩ := hp
    refine ⟨_, rfl, B, _, h0, rfl, h1, fun e => ?_⟩
    obtain ⟨hlo, h3, a, h4, rfl⟩ := h2 e
    exact ⟨hlo, h3, a, h4, add_add' _ _ _⟩
  | cptr cs off =>
    cases h
    obtain ⟨p, rfl, h1⟩ := hp
    exact ⟨_, rfl, p, by rw [add_add'], h1⟩
  | _ => cases h
theorem nilCheck_ok {x : Operand} (ho : o.op = .nilCheck x) (hρ : ∀ x, VR C κ I L w (ev C L x) (ρ x)) (h : pureOp C L o.op = some v) : Gives C κ I L w ρ o v := by
  rw [ho] at h
  obtain ⟨a, h1, h2⟩ := movePtr_ok (hρ x) h
  refine ⟨.pointer (some a), ?_, by simpa [Addr.add] using h2⟩
  unfold execOp
  rw [ho]
  simp [h1]
theorem fieldAddr_ok {t : TypeId} {x : Operand} {n : Nat} (hT : TOk C good t) (ho : o.op = .fieldAddr t x n) (hρ : ∀ x, VR C κ I L w (ev C L x) (ρ x)) (h : pureOp C L o.op = some v) : Gives C κ I L w ρ o v := by
  rw [ho] at h
  simp only [pureOp] at h
  obtain ⟨d, h1, h2⟩ := Option.bind_eq_some_iff.1 h
  obtain ⟨fs, f, j, h3, h4, rfl, h6, h7, _⟩ := hT.offs n d h1
  obtain ⟨a, h8, h9⟩ := movePtr_ok (hρ x) h2
  refine Gives.of (by unfold execOp; rw [ho]) ?_ h9
  rw [h8]
  simp [Instr.fieldAt, runUnd h3, h4, Instr.sureAddr, fieldPlace, sizeOf, typeInfo, h6, h7]
theorem asInt_some {p : PV} {i : Int} {pv : Value} (hp : VR C κ I L w p pv) (h : asInt p = some i) : ∃ k, p = .int k i ∧ pv = .int k i := by
  cases p with
  | int k n => cases h; exact ⟨k, rfl, VR.int hp⟩
  | _ => cases h
theorem indexAddr_ok {t : TypeId} {x i : Operand} (hT : TOk C good t) (hty : Types C good) (ho : o.op = .indexAddr t x i) (hρ : ∀ x, VR C κ I L w (ev C L x) (ρ x)) (h : pureOp C L o.op = some v) : Gives C κ I L w ρ o v := by
  rw [ho] at h
  simp only [pureOp] at h
  obtain ⟨n, h1, h2⟩ := Option.bind_eq_some_iff.1 h
  obtain ⟨k, _, hi⟩ := asInt_some (hρ i) h1
  have hx := hρ x
  have arrCase : ∀ {p : PV} (hp : VR C κ I L w p (ρ x)), ((C.ty t).alen.bind fun m => if 0 ≤ n ∧ n < m then movePtr (n.toNat * (C.ty (C.ty t).elem).sz) p else none) = some v → Gives C κ I L w ρ o v := by
    intro p hp hh
    obtain ⟨m, h3, h4⟩ := Option.bind_eq_some_iff.1 hh
    split at h4
    · rename_i hn
      obtain ⟨hu, hg, _⟩ := hT.alen m h3
      obtain ⟨a, h5, h6⟩ := movePtr_ok hp h4
      refine Gives.of (by unfold execOp; rw [ho]) ?_ h6
      rw [h5, hi]
      simp [Instr.indexAt, runUnd hu, asIntOf, Instr.sureAddr, hn, runSize (hty _ hg)]
    · cases h4
  cases hp : ev C L x with
  | arr s xs =>
    rw [hp] at h2 hx
    simp only [indexAt] at h2
    split at h2
    · rename_i hc
      obtain ⟨hs, rfl, h0⟩ := hc
      obtain ⟨cs, h3, rfl⟩ := Option.map_eq_some_iff.1 h2
      simp only [VR, VA, V1, KR] at hx
      obtain ⟨A, cap, h4, h5, h6⟩ := hx
      obtain ⟨h7, a, rfl, h8⟩ := KRows_get h6 h3
      obtain ⟨hu, hg⟩ := hT.slc hs
      have hlt : n.toNat < xs.length := (List.getElem?_eq_some_iff.1 h3).1
      refine Gives.of (by unfold execOp; rw [ho]) (v' := .pointer (some (a.add (n.toNat * (C.ty (C.ty t).elem).sz)))) ?_ ⟨a.add (n.toNat * (C.ty (C.ty t).elem).sz), rfl, by simpa using h8⟩
      rw [h4, hi]
      have hn : 0 ≤ n ∧ n < xs.length := by omega
      simp [Instr.indexAt, runUnd hu, asIntOf, hn, runSize (hty _ hg)]
    · cases h2
  | ref k' off len ver =>
    rw [hp] at h2 hx
    simp only [indexAt] at h2
    split at h2
    · rename_i hc
      obtain ⟨hs, h0, hlt⟩ := hc
      obtain ⟨B, A, cap, h3, h4, h5, h6⟩ := hx
      rw [h3, Option.bind_some] at h2
      split at h2
      · rename_i hb
        obtain ⟨he, hver, hle⟩ := hb
        cases h2
        obtain ⟨hlo, _, _, h7, _⟩ := h6 hver
        obtain ⟨a, h8, rfl⟩ := h7 (.inl (by omega))
        obtain ⟨hu, hg⟩ := hT.slc hs
        refine Gives.of (by unfold execOp; rw [ho]) (v' := .pointer (some ((a.add ((off - (κ.blk k').2.2) * (C.ty B.e).sz)).add (n.toNat * (C.ty (C.ty t).elem).sz)))) ?_ ⟨B, _, h3, rfl, h5, fun _ => ⟨by omega, by omega, a, h8, ?_⟩⟩
        · rw [h4, hi]
          have hn : 0 ≤ n ∧ n < len := ⟨h0, hlt⟩
          simp [Instr.indexAt, runUnd hu, asIntOf, hn, runSize (hty _ hg)]
        · rw [add_add', add_add', he, Nat.add_zero, ← Nat.add_mul, show off - (κ.blk k').2.2 + n.toNat = off + n.toNat - (κ.blk k').2.2 by omega]
      · cases h2
    · cases h2
  | ptr k' off => rw [hp] at h2 hx; exact arrCase hx h2
  | cptr cs off => rw [hp] at h2 hx; exact arrCase hx h2
  | eptr k' i' off ver => rw [hp] at h2 hx; exact arrCase hx h2
  | nil => rw [hp] at h2 hx; exact arrCase hx h2
  | _ =>
    rw [hp] at h2
    simp only [indexAt] at h2
    obtain ⟨m, _, h4⟩ := Option.bind_eq_some_iff.1 h2
    split at h4 <;> cases h4
end
end Go.AI
/- The operations that read, further: arithmetic, slicing, structs made. -/
namespace Go.AI
open Go Go.RowKit
section
variable {C : Cfg} {good : TypeId → Bool} {κ : Place} {I : Nat → Prop} {L : Look} {w : World} {ρ : Operand → Value} {o : Oper} {v : PV}
theorem intOp_ok {op : BinOp} {k : IntKind} {a b : Int} (h : intOp op k a b = some v) (t : TypeId) : ∃ v', (Go.binOp op t (.int k a) (.int k b)).run C.P w = .ok v' w ∧ VR C κ I L w v v' := by
  cases op with
  | add => cases h; exact ⟨.int k (k.wrap (a + b)), by simp [Go.binOp, Op.intArith], .mk_int _ _⟩
  | sub => cases h; exact ⟨.int k (k.wrap (a - b)), by simp [Go.binOp, Op.intArith], .mk_int _ _⟩
  | mul => cases h; exact ⟨.int k (k.wrap (a * b)), by simp [Go.binOp, Op.intArith], .mk_int _ _⟩
  | quo =>
    simp only [intOp] at h
    split at h
    · cases h
    · rename_i hb; cases h; exact ⟨.int k (k.wrap (a.tdiv b)), by simp [Go.binOp, Op.intDiv, hb], .mk_int _ _⟩
  | rem =>
    simp only [intOp] at h
    split at h
    · cases h
    · rename_i hb; cases h; exact ⟨.int k (a.tmod b), by simp [Go.binOp, Op.intDiv, hb], .mk_int _ _⟩
  | and => cases h; exact ⟨_, by simp only [Go.binOp, Op.intBits, ne_eq, not_true_eq_false, if_false]; rfl, .mk_int _ _⟩
  | or => cases h; exact ⟨_, by simp only [Go.binOp, Op.intBits, ne_eq, not_true_eq_false, if_false]; rfl, .mk_int _ _⟩
  | xor => cases h; exact ⟨_, by simp only [Go.binOp, Op.intBits, ne_eq, not_true_eq_false, if_false]; rfl, .mk_int _ _⟩
  | eql => cases h; exact ⟨.bool (decide (a = b)), by simp [Go.binOp, Op.intCmp]; rfl, .mk_bool _⟩
  | neq => cases h; exact ⟨.bool (!decide (a = b)), by simp [Go.binOp, Op.intCmp, bne]; rfl, .mk_bool _⟩
  | lss => cases h; exact ⟨.bool (decide (a < b)), by simp [Go.binOp, Op.intCmp], .mk_bool _⟩
  | leq => cases h; exact ⟨.bool (decide (a ≤ b)), by simp [Go.binOp, Op.intCmp], .mk_bool _⟩
  | gtr => cases h; exact ⟨.bool (decide (b < a)), by simp [Go.binOp, Op.intCmp], .mk_bool _⟩
  | geq => cases h; exact ⟨.bool (decide (b ≤ a)), by simp [Go.binOp, Op.intCmp], .mk_bool _⟩
  | _ => cases h
theorem shiftOp_ok {op : BinOp} {k k' : IntKind} {a b : Int} (h : shiftOp op k a b = some v) (t : TypeId) : ∃ v', (Go.binOp op t (.int k a) (.int k' b)).run C.P w = .ok v' w ∧ VR C κ I L w v v' := by
  cases op <;> simp only [shiftOp, reduceCtorEq] at h
  all_goals
    split at h
    · cases h
    · rename_i hb
      cases h
      refine ⟨_, by simp [Go.binOp, Op.shift, hb]; rfl, by simp only [VR, VA, V1, KR]⟩
theorem strOp_ok {op : BinOp} {a b : ByteArray} (h : strOp op a b = some v) (t : TypeId) : ∃ v', (Go.binOp op t (.string a) (.string b)).run C.P w = .ok v' w ∧ VR C κ I L w v v' := by
  cases op <;> simp only [strOp, reduceCtorEq] at h
  · split at h
    · rename_i hb
      cases h
      have hn : ¬ (((a.size + b.size : Nat) : Int) > IntKind.i64.max) := by
        have : IntKind.i64.max = 9223372036854775807 := by decide
        rw [this]; omega
      refine ⟨.string (a ++ b), ?_, by simp only [VR, VA, V1, KR]⟩
      simp only [Go.binOp, Op.stringOp, if_neg hn]
      rfl
    · cases h
  · cases h; exact ⟨_, rfl, by simp only [VR, VA, V1, KR]⟩
  · cases h; exact ⟨_, rfl, by simp only [VR, VA, V1, KR]⟩
theorem not_ok {t : TypeId} {x : Operand} (ho : o.op = .unOp .not t x) (hρ : ∀ x, VR C κ I L w (ev C L x) (ρ x)) (h : pureOp C L o.op = some v) : Gives C κ I L w ρ o v := by
  rw [ho] at h
  have hx := hρ x
  simp only [pureOp] at h
  cases hb : ev C L x with
  | bool b =>
    rw [hb] at h hx
    cases h
    refine Gives.of (by unfold execOp; rw [ho]) (v' := .bool !b) ?_ (by simp only [VR, VA, V1, KR])
    rw [VR.bool hx]; rfl
  | _ => rw [hb] at h; cases h
theorem neg_ok {t : TypeId} {x : Operand} (ho : o.op = .unOp .neg t x) (hρ : ∀ x, VR C κ I L w (ev C L x) (ρ x)) (h : pureOp C L o.op = some v) : Gives C κ I L w ρ o v := by
  rw [ho] at h
  have hx := hρ x
  simp only [pureOp] at h
  cases hb : ev C L x with
  | int k n =>
    rw [hb] at h hx
    cases h
    refine Gives.of (by unfold execOp; rw [ho]) (v' := .int k (k.wrap (0 - n))) ?_ (by simp only [VR, VA, V1, KR])
    rw [VR.int hx]; rfl
  | _ => rw [hb] at h; cases h
theorem convert_ok {s t : TypeId} {x : Operand} (hS : TOk C good s) (hT : TOk C good t) (ho : o.op = .convert s t x) (hρ : ∀ x, VR C κ I L w (ev C L x) (ρ x)) (h : pureOp C L o.op = some v) : Gives C κ I L w ρ o v := by
  rw [ho] at h
  have hx := hρ x
  simp only [pureOp] at h
  cases hk : (C.ty t).ik with
  | none => rw [hk] at h; cases h
  | some k =>
    rw [hk] at h
    cases hb : ev C L x with
    | int k' n =>
      rw [hb] at h hx
      cases h
      refine Gives.of (by unfold execOp; rw [ho]) (v' := .int k (k.wrap n)) ?_ (by simp only [VR, VA, V1, KR])
      obtain ⟨d, hd, _⟩ := hS.und
      rw [VR.int hx]
      simp [convert, runUnd hd, runUnd (hT.ik k hk), Conv.intToInt]
    | _ => rw [hb] at h; cases h
theorem extract_ok {x : Operand} {i : Nat} (ho : o.op = .extract x i) (hρ : ∀ x, VR C κ I L w (ev C L x) (ρ x)) (h : pureOp C L o.op = some v) : Gives C κ I L w ρ o v := by
  rw [ho] at h
  have hx := hρ x
  simp only [pureOp] at h
  cases hb : ev C L x with
  | tup ps =>
    rw [hb] at h hx
    obtain ⟨vs, h1, h2⟩ := hx
    obtain ⟨u, h3, h4⟩ := h2.get h
    rw [Array.getElem?_toList] at h3
    refine Gives.of (by unfold execOp; rw [ho]) (v' := u) ?_ (.of_VA C κ I L w h4)
    rw [h1]
    simp [Instr.extract, h3]
  | _ => rw [hb] at h; cases h
theorem isPtr_VP {p : PV} {pv : Value} (h : isPtr p = true) (hv : VR C κ I L w p pv) : VP κ I L w p pv := by
  cases p with
  | ptr k o => exact hv
  | cptr c o => exact hv
  | _ => cases h
theorem makeFunc_ok {g : FuncId} {cap : Array Operand} (ho : o.op = .makeFunc (.func g) #[] cap) (hρ : ∀ x, VR C κ I L w (ev C L x) (ρ x)) (h : pureOp C L o.op = some v) : Gives C κ I L w ρ o v := by
  rw [ho] at h
  simp only [pureOp] at h
  split at h
  · rename_i hp
    cases h
    refine Gives.of (by unfold execOp; rw [ho]) (v' := .func (.func g) #[] (cap.map ρ)) (by simp [Instr.makeFunc]) ⟨_, rfl, ?_⟩
    rw [Array.toList_map]
    generalize cap.toList = l at hp
    induction l with
    | nil => trivial
    | cons a l ih =>
      simp only [List.map_cons, List.all_cons, Bool.and_eq_true] at hp
      exact ⟨isPtr_VP hp.1 (hρ a), ih hp.2⟩
  · cases h
theorem len_ok {x : Operand} {t : TypeId} (hT : TOk C good t) (ho : o.op = .call { callee := .builtin .len, args := #[x], argTypes := #[t] }) (hρ : ∀ x, VR C κ I L w (ev C L x) (ρ x)) (h : pureOp C L o.op = some v) : Gives C κ I L w ρ o v := by
  rw [ho] at h
  have hx := hρ x
  simp only [pureOp] at h
  obtain ⟨n, h1, rfl⟩ := Option.map_eq_some_iff.1 h
  have run : ∀ {n : Int}, (Builtin.len_ #[t] o.type #[ρ x]).run C.P w = .ok (goInt n) w → (execOp ρ o).run C.P w = .ok (.value (.int .i64 n)) w := by
    intro n hr
    unfold execOp
    rw [ho]
    simp only [resolve, Go.invoke, Go.builtin, Sem.run_bind, Sem.run_pure, Result.andThen_ok]
    simp only [List.map_toArray, List.map_cons, List.map_nil]
    rw [hr]
    rfl
  have slc : ∀ {A : Option Addr} {l c : Nat}, (C.ty t).slc = true → ρ x = .slice A l c → (Builtin.len_ #[t] o.type #[ρ x]).run C.P w = .ok (goInt l) w := by
    intro A l c hs hv
    rw [hv]
    simp [Builtin.len_, runUnd (hT.slc hs).1]
  cases hb : ev C L x with
  | str s =>
    rw [hb] at h1 hx
    simp only [lenOf] at h1
    split at h1
    · rename_i hs
      cases h1
      refine ⟨_, run (n := s.size) ?_, .mk_int _ _⟩
      rw [VR.str hx]
      simp [Builtin.len_, runUnd (hT.st hs)]
    · cases h1
  | arr s xs =>
    rw [hb] at h1 hx
    simp only [lenOf, slen, Option.map_some] at h1
    split at h1
    · rename_i hs
      cases h1
      simp only [VR, VA, V1, KR] at hx
      obtain ⟨A, cap, h2, _⟩ := hx
      exact ⟨_, run (slc hs h2), .mk_int _ _⟩
    · cases h1
  | nil =>
    rw [hb] at h1 hx
    simp only [lenOf, slen, Option.map_some] at h1
    split at h1
    · rename_i hs
      cases h1
      exact ⟨_, run (slc hs (VR.nil hx)), .mk_int _ _⟩
    · cases h1
  | ref k off len ver =>
    rw [hb] at h1 hx
    simp only [lenOf, slen, Option.map_some] at h1
    split at h1
    · rename_i hs
      cases h1
      obtain ⟨B, A, cap, _, h2, _⟩ := hx
      exact ⟨_, run (slc hs h2), .mk_int _ _⟩
    · cases h1
  | _ => rw [hb] at h1; simp [lenOf, slen] at h1
end
end Go.AI
/- Comparisons; elements of values; slices of slices; structs made. -/
namespace Go.AI
open Go Go.RowKit
section
variable {C : Cfg} {good : TypeId → Bool} {κ : Place} {I : Nat → Prop} {L : Look} {w : World} {ρ : Operand → Value} {o : Oper} {v : PV}
theorem eqGuard_plain (op : BinOp) (t : TypeId) (x y : Operand) {a b : Value} (h : (∀ cs, a ≠ .agg cs) ∧ a ≠ .nilIface) : (eqGuard op t x y a b).run C.P w = .ok () w := by
  cases a with
  | agg cs => exact absurd rfl (h.1 cs)
  | nilIface => exact absurd rfl h.2
  | _ => cases op <;> rfl
theorem eqFields_ok (d : Nat) (xs ys : Array Value) : ∀ (fs : List Field) (n : Nat) (p q : List PV) (r : Bool), (∀ (i : Nat) (f : Field), fs[i]? = some f → f.offset = n + i ∧ f.name ≠ "_" ∧ ∃ k, C.P.underlying f.type = some (.int k)) →
    fs.length = p.length → All2 (V1 C κ I L w) p (xs.toList.drop n) → All2 (V1 C κ I L w) q (ys.toList.drop n) → eqCells p q = some r → (Op.eqFields (d + 1) xs ys fs).run C.P w = .ok r w
  | [], n, p, q, r, _, hl, hp, hq, h => by
    match p, hl with
    | [], _ =>
      cases q with
      | nil => cases h; simp [Op.eqFields]
      | cons _ _ => cases h
  | f :: fs, n, p, q, r, hf, hl, hp, hq, h => by
    match p, hl with
    | c :: p, hl =>
      match q, h with
      | c' :: q, h =>
        obtain ⟨ho, hn, k, hk⟩ := hf 0 f rfl
        simp only [eqCells] at h
        obtain ⟨b, hb, h⟩ := Option.bind_eq_some_iff.1 h
        obtain ⟨u, hu1, hu2⟩ := hp.get (i := 0) rfl
        obtain ⟨u', hu1', hu2'⟩ := hq.get (i := 0) rfl
        rw [List.getElem?_drop, Array.getElem?_toList, Nat.add_zero] at hu1 hu1'
        have hag : (isAgg f.type).run C.P w = .ok false w := by
          unfold isAgg
          rw [Sem.run_bind, runUnd hk, Result.andThen_ok]
          rfl
        have pa : (part f.type xs f.offset).run C.P w = .ok u w := by
          unfold part
          rw [Sem.run_bind, hag, Result.andThen_ok, ho, Nat.add_zero, if_neg (by simp), hu1]
          rfl
        have pb : (part f.type ys f.offset).run C.P w = .ok u' w := by
          unfold part
          rw [Sem.run_bind, hag, Result.andThen_ok, ho, Nat.add_zero, if_neg (by simp), hu1']
          rfl
        cases c with
        | int k1 n1 => cases c' with
          | int k2 n2 =>
            simp only [eqCell] at hb
            split at hb
            · rename_i hkk
              subst hkk
              cases hb
              simp only [V1, KR] at hu2 hu2'
              subst hu2 hu2'
              have he := run_equalIn_int (P := C.P) w d f.type k1 k n1 n2 hk
              have hp2 : All2 (V1 C κ I L w) p (xs.toList.drop (n + 1)) := by
                have := hp.drop 1
                rwa [List.drop_drop] at this
              have hq2 : All2 (V1 C κ I L w) q (ys.toList.drop (n + 1)) := by
                have := hq.drop 1
                rwa [List.drop_drop] at this
              rw [Op.eqFields]
              simp only [if_pos hn, Sem.run_bind, pa, pb, he, Result.andThen_ok]
              by_cases hnn : n1 = n2
              · rw [decide_eq_true hnn, if_pos rfl] at h
                have := eqFields_ok d xs ys fs (n + 1) p q r (fun i g hg => by have := hf (i + 1) g (by simpa using hg); rwa [show n + 1 + i = n + (i + 1) by omega]) (by simpa using hl) hp2 hq2 h
                simp [hnn, this]
              · rw [decide_eq_false hnn, if_neg (by simp)] at h
                cases h
                simp [hnn]
            · cases hb
          | _ => cases hb
        | _ => cases hb
      | [], h => cases h
theorem eqA_ok {t : TypeId} (hE : EqOk C t) {p q : List PV} {r : Bool} {xs ys : Array Value} (he : (C.ty t).eqi = true) (hl : p.length = (C.ty t).sz) (hp : All2 (V1 C κ I L w) p xs.toList) (hq : All2 (V1 C κ I L w) q ys.toList) (h : eqCells p q = some r) :
    (Op.equalIn 10000 t (.agg xs) (.agg ys)).run C.P w = .ok r w := by
  obtain ⟨fs, hu, hs, _, hsz, hf⟩ := hE.eqi he
  have hff : C.P.fieldsOf t = fs := by simp [Program.fieldsOf, hu]
  refine (run_equalIn_struct (P := C.P) w 9999 t xs ys (by rw [hff]; exact hu) hs).trans ?_
  rw [hff]
  exact eqFields_ok 9998 xs ys fs.toList 0 p q r (fun i f hi => by rw [Array.getElem?_toList] at hi; simpa using hf i f hi) (by simp [hsz, hl]) (by simpa using hp) (by simpa using hq) h
theorem binOp_ok {op : BinOp} {t ty : TypeId} {x y : Operand} (hE : EqOk C t) (ho : o.op = .binOp op t x y ty) (hρ : ∀ x, VR C κ I L w (ev C L x) (ρ x)) (h : pureOp C L o.op = some v) : Gives C κ I L w ρ o v := by
  rw [ho] at h
  have hx := hρ x
  have hy := hρ y
  simp only [pureOp] at h
  have go : ∀ {v' : Value}, (eqGuard op t x y (ρ x) (ρ y)).run C.P w = .ok () w → (Go.binOp op t (ρ x) (ρ y)).run C.P w = .ok v' w → VR C κ I L w v v' → Gives C κ I L w ρ o v := by
    intro v' h1 h2 h3
    refine Gives.of (s := do eqGuard op t x y (ρ x) (ρ y); Go.binOp op t (ρ x) (ρ y)) (by unfold execOp; rw [ho]) ?_ h3
    rw [Sem.run_bind, h1, Result.andThen_ok, h2]
  cases hp : ev C L x with
  | int k a =>
    rw [hp] at h hx
    have hx := VR.int hx
    cases hq : ev C L y with
    | int k' b =>
      rw [hq] at h hy
      have hy := VR.int hy
      simp only [binOp] at h
      split at h
      · obtain ⟨v', h1, h2⟩ := shiftOp_ok (C := C) (κ := κ) (I := I) (L := L) (w := w) (k' := k') h t
        exact go (eqGuard_plain _ _ _ _ (by rw [hx]; simp)) (by rw [hx, hy]; exact h1) h2
      · split at h
        · rename_i hk
          subst hk
          obtain ⟨v', h1, h2⟩ := intOp_ok (C := C) (κ := κ) (I := I) (L := L) (w := w) h t
          exact go (eqGuard_plain _ _ _ _ (by rw [hx]; simp)) (by rw [hx, hy]; exact h1) h2
        · cases h
    | _ => rw [hq] at h; cases h
  | bool a =>
    rw [hp] at h hx
    have hx := VR.bool hx
    cases hq : ev C L y with
    | bool b =>
      rw [hq] at h hy
      have hy := VR.bool hy
      simp only [binOp] at h
      split at h
      · rename_i hb
        have hu := hE.bl hb
        cases op <;> simp only [reduceCtorEq] at h
        · cases h
          exact go (v' := .bool (a == b)) (eqGuard_plain _ _ _ _ (by rw [hx]; simp)) (by rw [hx, hy]; exact run_eql_bool (P := C.P) w t a b hu) (.mk_bool _)
        · cases h
          exact go (v' := .bool (!(a == b))) (eqGuard_plain _ _ _ _ (by rw [hx]; simp)) (by rw [hx, hy]; exact run_neq_bool (P := C.P) w t a b hu) (.mk_bool _)
      · cases h
    | _ => rw [hq] at h; cases h
  | str a =>
    rw [hp] at h hx
    have hx := VR.str hx
    cases hq : ev C L y with
    | str b =>
      rw [hq] at h hy
      have hy := VR.str hy
      simp only [binOp] at h
      obtain ⟨v', h1, h2⟩ := strOp_ok (C := C) (κ := κ) (I := I) (L := L) (w := w) h t
      exact go (eqGuard_plain _ _ _ _ (by rw [hx]; simp)) (by rw [hx, hy]; exact h1) h2
    | _ => rw [hq] at h; cases h
  | agg p =>
    rw [hp] at h hx
    obtain ⟨xs, hx, hxs⟩ := hx
    cases hq : ev C L y with
    | agg q =>
      rw [hq] at h hy
      obtain ⟨ys, hy, hys⟩ := hy
      simp only [binOp] at h
      split at h
      · rename_i hee
        obtain ⟨he, hlen⟩ := hee
        obtain ⟨_, _, _, hgd, _⟩ := hE.eqi he
        cases op <;> simp only [reduceCtorEq] at h
        · obtain ⟨r, hr, rfl⟩ := Option.map_eq_some_iff.1 h
          refine go (v' := .bool r) (by rw [hx, hy]; exact run_eqGuard_agg (P := C.P) w _ _ _ _ _ _ hgd) ?_ (.mk_bool _)
          rw [hx, hy, run_eql_struct, eqA_ok hE he hlen hxs hys hr]; rfl
        · obtain ⟨r, hr, rfl⟩ := Option.map_eq_some_iff.1 h
          refine go (v' := .bool !r) (by rw [hx, hy]; exact run_eqGuard_agg (P := C.P) w _ _ _ _ _ _ hgd) ?_ (.mk_bool _)
          rw [hx, hy, run_neq_struct, eqA_ok hE he hlen hxs hys hr]; rfl
      · cases h
    | _ => rw [hq] at h; cases h
  | _ => rw [hp] at h; simp only [binOp] at h; cases h
end
end Go.AI
/- Elements of values; slices of slices; structs made. -/
namespace Go.AI
open Go Go.RowKit
section
variable {C : Cfg} {good : TypeId → Bool} {κ : Place} {I : Nat → Prop} {L : Look} {w : World} {ρ : Operand → Value} {o : Oper} {v : PV}
/-- A part of a struct's or an array's value. -/
theorem part_ok {t : TypeId} {ag : Bool} {n : Nat} (hag : (isAgg t).run C.P w = .ok ag w) (hsz : ag = true → (sizeOf t).run C.P w = .ok n w) (h1n : ag = false → n = 1) {cs new : List PV} {vs : Array Value} {off : Nat} (h : All2 (V1 C κ I L w) cs vs.toList) (hc : cut cs off n = some new) (hv : mk ag new = some v) :
    ∃ v', (part t vs off).run C.P w = .ok v' w ∧ VR C κ I L w v v' := by
  obtain ⟨hle, rfl⟩ := cut_some hc
  unfold part
  rw [Sem.run_bind, hag, Result.andThen_ok]
  unfold mk at hv
  cases ag with
  | true =>
    rw [if_pos rfl] at hv
    cases hv
    simp only [if_true, Sem.run_bind, hsz rfl, Result.andThen_ok, Sem.run_pure]
    refine ⟨_, rfl, _, rfl, ?_⟩
    have := (h.drop off).take n
    rw [Array.toList_extract]
    simpa [List.extract] using this
  | false =>
    obtain rfl := h1n rfl
    rw [if_neg (by simp)] at hv
    have hlt : off < cs.length := by omega
    have he : (cs.drop off).take 1 = [cs[off]] := by
      rw [List.drop_eq_getElem_cons hlt]; rfl
    rw [he] at hv
    cases hv
    obtain ⟨u, hu1, hu2⟩ := h.get (List.getElem?_eq_getElem hlt)
    rw [Array.getElem?_toList] at hu1
    rw [if_neg (by simp), hu1]
    exact ⟨u, rfl, .of_V1 C κ I L w hu2⟩
theorem cut_one {cs new : List PV} {off n : Nat} (hc : cut cs off n = some new) (hv : mk false new = some v) : n = 1 := by
  obtain ⟨hle, rfl⟩ := cut_some hc
  unfold mk at hv
  rw [if_neg (by simp)] at hv
  have hl : ((cs.drop off).take n).length = n := by rw [List.length_take, List.length_drop]; omega
  split at hv
  · rename_i c e
    rw [e] at hl
    exact hl.symm
  · cases hv
theorem index_ok {t : TypeId} {x i : Operand} (hT : TOk C good t) (hty : Types C good) (ho : o.op = .index t x i) (hρ : ∀ x, VR C κ I L w (ev C L x) (ρ x)) (h : pureOp C L o.op = some v) : Gives C κ I L w ρ o v := by
  rw [ho] at h
  simp only [pureOp] at h
  obtain ⟨n, h1, h2⟩ := Option.bind_eq_some_iff.1 h
  obtain ⟨k, _, hi⟩ := asInt_some (hρ i) h1
  have hx := hρ x
  cases hp : ev C L x with
  | str s =>
    rw [hp] at h2 hx
    simp only [indexIn] at h2
    split at h2
    · rename_i hc
      cases h2
      refine Gives.of (by unfold execOp; rw [ho]) (v' := .int .u8 (s[n.toNat]'hc.2.2).toNat) ?_ (.mk_int _ _)
      rw [VR.str hx, hi]
      simp only [Instr.index, asIntOf, Sem.run_bind, Sem.run_pure, Result.andThen_ok, runUnd (hT.st hc.1), hc.2.1, if_true]
      rw [getElem?_pos s n.toNat hc.2.2]
      rfl
    · cases h2
  | agg cs =>
    rw [hp] at h2 hx
    obtain ⟨vs, hx, hvs⟩ := hx
    simp only [indexIn] at h2
    obtain ⟨m, h3, h4⟩ := Option.bind_eq_some_iff.1 h2
    split at h4
    · rename_i hn
      obtain ⟨hu, hg, _⟩ := hT.alen m h3
      obtain ⟨new, h5, h6⟩ := Option.bind_eq_some_iff.1 h4
      obtain ⟨v', h7, h8⟩ := part_ok (runAgg (hty _ hg)) (fun _ => runSize (hty _ hg)) (fun e => by rw [e] at h6; exact cut_one h5 h6) hvs h5 h6
      refine Gives.of (by unfold execOp; rw [ho]) (v' := v') ?_ h8
      rw [hx, hi]
      simp only [Instr.index, asIntOf, Sem.run_bind, Sem.run_pure, Result.andThen_ok, runUnd hu, if_pos hn, runSize (hty _ hg)]
      exact h7
    · cases h4
  | _ => rw [hp] at h2; simp [indexIn] at h2
theorem field_ok {t : TypeId} {x : Operand} {n : Nat} (hT : TOk C good t) (hty : Types C good) (ho : o.op = .field t x n) (hρ : ∀ x, VR C κ I L w (ev C L x) (ρ x)) (h : pureOp C L o.op = some v) : Gives C κ I L w ρ o v := by
  rw [ho] at h
  have hx := hρ x
  simp only [pureOp] at h
  cases hp : ev C L x with
  | agg cs =>
    rw [hp] at h hx
    obtain ⟨vs, hx, hvs⟩ := hx
    obtain ⟨d, h1, h⟩ := Option.bind_eq_some_iff.1 h
    obtain ⟨m, h2, h⟩ := Option.bind_eq_some_iff.1 h
    obtain ⟨g, h3, h⟩ := Option.bind_eq_some_iff.1 h
    obtain ⟨new, h5, h6⟩ := Option.bind_eq_some_iff.1 h
    obtain ⟨fs, f, j, hu, hf, rfl, hj, hj0, hsz, hg, hag⟩ := hT.offs n d h1
    rw [h2] at hsz
    cases hsz
    rw [h3] at hag
    cases hag
    obtain ⟨v', h7, h8⟩ := part_ok (t := f.type) (runAgg (hty _ hg)) (fun _ => by simp [sizeOf, typeInfo, hj]) (fun e => by rw [e] at h6; exact cut_one h5 h6) hvs h5 h6
    refine Gives.of (by unfold execOp; rw [ho]) (v' := v') ?_ h8
    rw [hx]
    simp only [Instr.field, Sem.run_bind, runUnd hu, Result.andThen_ok, hf, asAgg, Sem.run_pure]
    exact h7
  | _ => rw [hp] at h; cases h
theorem bounds_ok {lo hi : Option Operand} {l m : Int} {len cap : Nat} (hρ : ∀ x, VR C κ I L w (ev C L x) (ρ x)) (hl : bound C L 0 lo = some l) (hm : bound C L len hi = some m) (h0 : 0 ≤ l) (h1 : l ≤ m) (h2 : m ≤ len) (h3 : len ≤ cap) (b : Bool) :
    (Instr.sliceBounds b len cap (lo.map ρ) (hi.map ρ) none).run C.P w = .ok (l.toNat, m.toNat, cap) w := by
  have hc : m ≤ cap := by omega
  have hm0 : 0 ≤ m := by omega
  have hlm : l ≤ (m.toNat : Int) := by omega
  cases lo with
  | none =>
    simp only [bound, Option.some.injEq] at hl
    subst hl
    cases hi with
    | none =>
      simp only [bound, Option.some.injEq] at hm
      subst hm
      simp [Instr.sliceBounds]
    | some x =>
      simp only [bound] at hm
      obtain ⟨k, _, hi⟩ := asInt_some (hρ x) hm
      simp [Instr.sliceBounds, Instr.sliceBound, hi, asIntOf, hm0, hc]
  | some y =>
    simp only [bound] at hl
    obtain ⟨k', _, hlo⟩ := asInt_some (hρ y) hl
    cases hi with
    | none =>
      simp only [bound, Option.some.injEq] at hm
      subst hm
      simp [Instr.sliceBounds, Instr.sliceBound, hlo, asIntOf, h0, h1]
    | some x =>
      simp only [bound] at hm
      obtain ⟨k, _, hi⟩ := asInt_some (hρ x) hm
      have hlm' : l ≤ max m 0 := by omega
      simp [Instr.sliceBounds, Instr.sliceBound, hi, hlo, asIntOf, hm0, hc, h0, hlm']
theorem slice_ok {t : TypeId} {x : Operand} {lo hi : Option Operand} (hm' : ∀ k B, L.m k = some B → B.n ≤ (κ.blk k).2.1 + (κ.blk k).2.2) (hT : TOk C good t) (hty : Types C good) (ho : o.op = .slice t x lo hi none) (hρ : ∀ x, VR C κ I L w (ev C L x) (ρ x)) (h : pureOp C L o.op = some v) : Gives C κ I L w ρ o v := by
  rw [ho] at h
  simp only [pureOp] at h
  obtain ⟨l, hl, ha⟩ := Option.bind_eq_some_iff.1 h
  obtain ⟨n, hn, hb⟩ := Option.bind_eq_some_iff.1 ha
  clear h ha
  obtain ⟨m, hm, h⟩ := Option.bind_eq_some_iff.1 hb
  clear hb
  have hx := hρ x
  -- a slice's slice
  have slc : ∀ {A : Option Addr} {len cap : Nat}, (C.ty t).slc = true → ρ x = .slice A len cap → len ≤ cap → n = len → 0 ≤ l → l ≤ m → m ≤ len →
      (Instr.sliceAt t (ρ x) (lo.map ρ) (hi.map ρ) none).run C.P w = .ok (.slice (if cap = l.toNat then A else A.map (·.add (l.toNat * (C.ty (C.ty t).elem).sz))) (m.toNat - l.toNat) (cap - l.toNat)) w := by
    intro A len cap hs hv hlc hnl h0 h1 h2
    obtain ⟨hu, hg⟩ := hT.slc hs
    rw [hv]
    simp only [Instr.sliceAt, Sem.run_bind, runUnd hu, Result.andThen_ok, Instr.slice]
    have hbounds := bounds_ok (w := w) (b := true) hρ hl (by subst hnl; exact hm) h0 h1 h2 hlc
    rw [hbounds]
    simp only [Result.andThen_ok, runSize (hty _ hg), Sem.run_pure]
  cases hp : ev C L x with
  | arr s xs =>
    rw [hp] at h hn hx
    simp only [lenOf, slen, Option.map_some] at hn
    simp only [sliceOf] at h
    split at h
    · rename_i hc
      obtain ⟨hs, rfl, h0, h1, h2⟩ := hc
      rw [if_pos hs] at hn
      cases hn
      cases h
      simp only [VR, VA, V1, KR] at hx
      obtain ⟨A, cap, h4, h5, h6⟩ := hx
      refine Gives.of (by unfold execOp; rw [ho]; rfl) (slc hs h4 h5 rfl h0 h1 h2) ?_
      simp only [VR, VA, V1, KR]
      have hlen : ((xs.drop l.toNat).take (m.toNat - l.toNat)).length = m.toNat - l.toNat := by rw [List.length_take, List.length_drop]; omega
      refine ⟨_, _, by rw [hlen], by rw [hlen]; omega, KRows_of fun i el he => ?_⟩
      rw [List.getElem?_take] at he
      split at he
      · rename_i hi'
        rw [List.getElem?_drop] at he
        obtain ⟨h7, a, h8, h9⟩ := KRows_get h6 he
        refine ⟨h7, a.add (l.toNat * (C.ty (C.ty t).elem).sz), ?_, ?_⟩
        · have : cap ≠ l.toNat := by
            have := (List.getElem?_eq_some_iff.1 he).1
            omega
          rw [if_neg this, h8]; rfl
        · rw [add_add', ← Nat.add_mul]
          rw [show 0 + (l.toNat + i) = l.toNat + (0 + i) by omega] at h9
          exact h9
      · cases he
    · cases h
  | ref k off len ver =>
    rw [hp] at h hn hx
    simp only [lenOf, slen, Option.map_some] at hn
    simp only [sliceOf] at h
    split at h
    · rename_i hc
      obtain ⟨hs, h0, h1, h2⟩ := hc
      rw [if_pos hs] at hn
      cases hn
      obtain ⟨B, A, cap, h3, h4, h5, h6⟩ := hx
      rw [h3, Option.bind_some] at h
      split at h
      · rename_i hb
        obtain ⟨he, hver⟩ := hb
        cases h
        obtain ⟨hlo, h7, h8, h9, h10⟩ := h6 hver
        have h11 : len ≤ cap := by have := hm' k B h3; omega
        refine Gives.of (by unfold execOp; rw [ho]; rfl) (slc hs h4 h11 rfl h0 h1 h2) ⟨B, _, _, h3, rfl, h5, fun _ => ⟨by omega, by omega, by omega, fun hpos => ?_, fun hz => ?_⟩⟩
        · obtain ⟨a, ha, hA⟩ := h9 (by omega)
          refine ⟨a, ha, ?_⟩
          have hne : cap ≠ l.toNat := by omega
          rw [if_neg hne, hA, he]
          simp only [Option.map_some, add_add', ← Nat.add_mul]
          rw [show off - (κ.blk k).2.2 + l.toNat = off + l.toNat - (κ.blk k).2.2 by omega]
        · have hl0 : l.toNat = 0 := by omega
          have ho0 : off = (κ.blk k).2.2 := by omega
          rw [hl0, ← h10 ho0]
          split
          · rfl
          · cases A <;> simp [Addr.add]
      · cases h
    · cases h
  | nil =>
    rw [hp] at h hn hx
    simp only [lenOf, slen, Option.map_some] at hn
    simp only [sliceOf] at h
    split at h
    · rename_i hc
      obtain ⟨hs, rfl, rfl⟩ := hc
      rw [if_pos hs] at hn
      cases hn
      cases h
      refine Gives.of (by unfold execOp; rw [ho]; rfl) (slc hs (VR.nil hx) (Nat.le_refl _) rfl (by omega) (by omega) (by omega)) ?_
      simp only [VR, VA, V1, KR]
      rfl
    · cases h
  | str s =>
    rw [hp] at h hn hx
    simp only [lenOf] at hn
    simp only [sliceOf] at h
    split at h
    · rename_i hc
      obtain ⟨hs, h0, h1, h2⟩ := hc
      rw [if_pos hs] at hn
      cases hn
      cases h
      refine Gives.of (s := Instr.sliceAt t (ρ x) (lo.map ρ) (hi.map ρ) none) (by unfold execOp; rw [ho]; rfl) (v' := .string (s.extract l.toNat m.toNat)) ?_ (.mk_str _)
      rw [VR.str hx]
      simp only [Instr.sliceAt, Sem.run_bind, runUnd (hT.st hs), Result.andThen_ok, Instr.slice, Option.isSome_none, Bool.false_eq_true, if_false, Sem.run_pure]
      have hbounds := bounds_ok (w := w) (b := false) hρ hl hm h0 h1 h2 (Nat.le_refl _)
      rw [hbounds]
      rfl
    · cases h
  | _ => rw [hp] at h; simp [sliceOf] at h
end
end Go.AI
/- Memory: boxes and blocks, and how each operation leaves them. -/
namespace Go.AI
open Go Go.RowKit
theorem get_put {α : Type} (k j : Nat) (v : α) : ∀ (m : Map α), Map.get j (Map.put k v m) = if k = j then some v else Map.get j m
  | [] => by simp only [Map.put, Map.get]
  | (i, u) :: r => by
    simp only [Map.put]
    split
    · rename_i h
      subst h
      simp only [Map.get]
      split <;> rfl
    · rename_i h
      split
      · simp only [Map.get]
      · simp only [Map.get, get_put k j v r]
        by_cases hi : i = j
        · subst hi
          rw [if_pos rfl, if_pos rfl, if_neg (fun e => h e.symm)]
        · rw [if_neg hi, if_neg hi]
theorem getElem_flatten {α : Type} {sz : Nat} : ∀ (l : List (List α)) (i j : Nat), (∀ x ∈ l, x.length = sz) → j < sz → l.flatten[i * sz + j]? = (l[i]?).bind (·[j]?)
  | [], i, j, _, _ => by simp
  | x :: l, 0, j, h, hj => by
    have := h x (by simp)
    simp only [List.flatten_cons, Nat.zero_mul, Nat.zero_add, List.getElem?_cons_zero, Option.bind_some]
    rw [List.getElem?_append_left (by omega)]
  | x :: l, i + 1, j, h, hj => by
    have h0 := h x (by simp)
    simp only [List.flatten_cons, List.getElem?_cons_succ]
    rw [List.getElem?_append_right (by rw [h0, Nat.add_mul]; omega), h0, show (i + 1) * sz + j - sz = i * sz + j by rw [Nat.add_mul]; omega]
    exact getElem_flatten l i j (fun y hy => h y (by simp [hy])) hj
structure BlkR (C : Cfg) (κ : Place) (I : Nat → Prop) (w : World) (k : Nat) (B : Blk) : Prop where
  len : B.xs.length = B.n
  row : ∃ vals : List (List Value), All2 (fun el vs => el.length = (C.ty B.e).sz ∧ All2 (KR I w) el vs) (B.xs.drop (κ.blk k).2.2) vals ∧ w.ownsRow 0 B.e (C.ty B.e).sz (.slice (κ.blk k).1 (B.n - (κ.blk k).2.2) (κ.blk k).2.1) (B.n - (κ.blk k).2.2) vals.flatten
  le : (κ.blk k).2.2 ≤ B.n
  own : ∀ a, (κ.blk k).1 = some a → (B.froz = true → I a.block) ∧ (B.froz = false → ¬ I a.block)
structure Heap (C : Cfg) (κ : Place) (I : Nat → Prop) (L : Look) (w : World) : Prop where
  imm : ∀ i, I i → i < w.heap.size
  box : ∀ k cs, L.b k = some cs → ¬ I (κ.box k) ∧ ∃ vs e, w.heap[κ.box k]? = some (.cells vs e (0, 0)) ∧ All2 (V1 C κ I L w) cs vs.toList
  blk : ∀ k B, L.m k = some B → BlkR C κ I w k B
  bb : ∀ k k', (L.b k).isSome → (L.b k').isSome → κ.box k = κ.box k' → k = k'
  bm : ∀ k k' B a, (L.b k).isSome → L.m k' = some B → (κ.blk k').1 = some a → κ.box k ≠ a.block
  mm : ∀ k k' B B' a a', L.m k = some B → L.m k' = some B' → B.froz = false → B'.froz = false → (κ.blk k).1 = some a → (κ.blk k').1 = some a' → a.block = a'.block → k = k'
section
variable {C : Cfg} {good : TypeId → Bool} {κ : Place} {I : Nat → Prop} {L : Look} {w : World}
theorem All2.flatten_len {R : List PV → List Value → Prop} {sz : Nat} (hR : ∀ a b, R a b → b.length = sz) : ∀ {x : List (List PV)} {y : List (List Value)}, All2 R x y → ∀ v ∈ y, v.length = sz
  | [], [], _, _, hv => by cases hv
  | a :: x, b :: y, h, v, hv => by
    rcases List.mem_cons.1 hv with rfl | hv
    · exact hR _ _ h.1
    · exact All2.flatten_len hR h.2 v hv
  | [], _ :: _, h, _, _ => h.elim
  | _ :: _, [], h, _, _ => h.elim
/-- Where a block lies. -/
theorem BlkR.place {k : Nat} {B : Blk} (h : BlkR C κ I w k B) : ((κ.blk k).1 = none ∧ (κ.blk k).2.1 = 0 ∧ B.n = (κ.blk k).2.2) ∨ ∃ g cur, (κ.blk k).1 = some ⟨g, 0, none⟩ ∧ w.heap[g]? = some (.cells cur B.e (0, 0)) ∧ B.n ≤ (κ.blk k).2.1 + (κ.blk k).2.2 ∧ (κ.blk k).2.1 ≤ maxLen ∧ cur.size = (κ.blk k).2.1 * (C.ty B.e).sz := by
  have hle := h.le
  obtain ⟨vals, _, _, h1⟩ := h.row
  rcases h1 with ⟨h2, h3⟩ | ⟨g, cap, cur, h2, h3, h4, h5, h6, h7, _⟩
  · left
    simp only [Value.slice.injEq] at h2
    exact ⟨h2.1, h2.2.2, by omega⟩
  · right
    simp only [Value.slice.injEq, true_and] at h2
    obtain ⟨h8, h9⟩ := h2
    rw [h9]
    exact ⟨g, cur, h8, h4, by omega, h6, h7⟩
theorem Heap.cap (h : Heap C κ I L w) : ∀ k B, L.m k = some B → B.n ≤ (κ.blk k).2.1 + (κ.blk k).2.2 := by
  intro k B hk
  rcases (h.blk k B hk).place with ⟨_, h1, h2⟩ | ⟨g, cur, _, _, h1, _⟩ <;> omega
theorem BlkR.cells {k : Nat} {B : Blk} (h : BlkR C κ I w k B) {i : Nat} {el : List PV} (hlo : (κ.blk k).2.2 ≤ i) (hi : B.xs[i]? = some el) : el.length = (C.ty B.e).sz ∧ ∃ a, (κ.blk k).1 = some a ∧ ∀ (j : Nat) (c : PV), el[j]? = some c → ∃ u, w.cell? ((a.add ((i - (κ.blk k).2.2) * (C.ty B.e).sz)).add j) = some u ∧ KR I w c u := by
  obtain ⟨vals, h1, h2⟩ := h.row
  obtain ⟨vs, h3, h4, h5⟩ := h1.get (i := i - (κ.blk k).2.2) (a := el) (by rw [List.getElem?_drop, show (κ.blk k).2.2 + (i - (κ.blk k).2.2) = i by omega]; exact hi)
  refine ⟨h4, ?_⟩
  rcases h.place with ⟨_, _, h0⟩ | ⟨g, cur, hg, _⟩
  · have := (List.getElem?_eq_some_iff.1 hi).1
    have := h.len
    omega
  · refine ⟨_, hg, fun j c hj => ?_⟩
    obtain ⟨u, hu1, hu2⟩ := h5.get hj
    refine ⟨u, ?_, hu2⟩
    rw [add_add']
    have hjl : j < (C.ty B.e).sz := by rw [← h4]; exact (List.getElem?_eq_some_iff.1 hj).1
    have hf : vals.flatten[(i - (κ.blk k).2.2) * (C.ty B.e).sz + j]? = some u := by
      rw [getElem_flatten vals (i - (κ.blk k).2.2) j (All2.flatten_len (fun a b hab => by rw [← hab.2.length]; exact hab.1) h1) hjl, h3]
      exact hu1
    exact h2.cells (g := g) (show Value.ownBlock (.slice (κ.blk k).1 (B.n - (κ.blk k).2.2) (κ.blk k).2.1) = some g by rw [hg]; rfl) _ _ hf
theorem Heap.mem (h : Heap C κ I L w) : Mem C κ I L w where
  box := fun k cs hk => (h.box k cs hk).2
  blk := fun k B hk => ⟨(h.blk k B hk).len, fun _ _ hlo hi => (h.blk k B hk).cells hlo hi⟩
theorem heap_push (o : Obj) : (w.alloc o).heap[w.heap.size]? = some o := by
  show (w.heap.push o)[w.heap.size]? = _
  simp
theorem heap_old (o : Obj) {i : Nat} (h : i < w.heap.size) : (w.alloc o).heap[i]? = w.heap[i]? := Below.heap_alloc w o i h
theorem ownsRow_go {w' : World} {e : TypeId} {size : Nat} {v : Value} {n : Nat} {xs : List Value} (h : w.ownsRow 0 e size v n xs) (hw : ∀ a, v.ownBlock = some a → w'.heap[a]? = w.heap[a]?) : w'.ownsRow 0 e size v n xs := by
  refine ⟨h.1, ?_⟩
  rcases h.2 with hn | ⟨g, cap, cur, rfl, hb, hgg, rest⟩
  · exact .inl hn
  · exact .inr ⟨g, cap, cur, rfl, hb, by rw [hw g rfl]; exact hgg, rest⟩
/-- A block that wasn't written stands as it stood. -/
theorem BlkR.go {κ' : Place} {I' : Nat → Prop} {w' : World} {k : Nat} {B : Blk} (h : BlkR C κ I w k B) (hκ : κ'.blk k = κ.blk k) (hI : ∀ i, I i → I' i) (hw : ∀ i, I i → w'.heap[i]? = w.heap[i]?) (ho : ∀ a, (κ.blk k).1 = some a → w'.heap[a.block]? = w.heap[a.block]?)
    (hI' : ∀ a, (κ.blk k).1 = some a → B.froz = false → ¬ I' a.block) : BlkR C κ' I' w' k B where
  len := h.len
  le := by rw [hκ]; exact h.le
  row := by
    obtain ⟨vals, h1, h2⟩ := h.row
    rw [hκ]
    refine ⟨vals, h1.mono fun a b hab => ⟨hab.1, hab.2.mono fun c d hcd => KR_mono hI hw hcd⟩, ?_⟩
    refine ownsRow_go h2 fun a ha => ?_
    cases hk : (κ.blk k).1 with
    | none => rw [hk] at ha; cases ha
    | some p =>
      rw [hk] at ha
      cases ha
      exact ho p hk
  own := fun a ha => by
    rw [hκ] at ha
    exact ⟨fun hf => hI _ ((h.own a ha).1 hf), fun hf => hI' a ha hf⟩
theorem Heap.box_lt (h : Heap C κ I L w) {k : Nat} (hk : (L.b k).isSome) : κ.box k < w.heap.size := by
  obtain ⟨cs, hcs⟩ := Option.isSome_iff_exists.1 hk
  obtain ⟨_, vs, e, h1, _⟩ := h.box k cs hcs
  exact (Array.getElem?_eq_some_iff.1 h1).1
theorem Heap.blk_lt (h : Heap C κ I L w) {k : Nat} {B : Blk} {a : Addr} (hk : L.m k = some B) (ha : (κ.blk k).1 = some a) : a.block < w.heap.size := by
  rcases (h.blk k B hk).place with ⟨h1, _⟩ | ⟨g, cur, h1, h2, _⟩
  · rw [ha] at h1; cases h1
  · rw [ha] at h1
    cases h1
    exact (Array.getElem?_eq_some_iff.1 h2).1
/-- What has been done since. -/
structure Since (κ κ' : Place) (I I' : Nat → Prop) (L L' : Look) (w w' : World) : Prop where
  os : w'.os = w.os
  tape : w'.tape = w.tape
  output : w'.output = w.output
  size : w.heap.size ≤ w'.heap.size
  keep : ∀ i, i < w.heap.size → (∀ k, (L.b k).isSome → κ.box k ≠ i) → (∀ k B a, L.m k = some B → B.froz = false → (κ.blk k).1 = some a → a.block ≠ i) → w'.heap[i]? = w.heap[i]?
  new : ∀ i, I' i → I i ∨ w.heap.size ≤ i ∨ ∃ k B a, L.m k = some B ∧ B.froz = false ∧ (κ.blk k).1 = some a ∧ a.block = i
  box : ∀ k, (L'.b k).isSome → (L.b k).isSome ∨ w.heap.size ≤ κ'.box k
  blk : ∀ k B' a, L'.m k = some B' → B'.froz = false → (κ'.blk k).1 = some a → (∃ B a0, L.m k = some B ∧ B.froz = false ∧ (κ.blk k).1 = some a0 ∧ a0.block = a.block) ∨ w.heap.size ≤ a.block
theorem Since.refl : Since κ κ I I L L w w := ⟨rfl, rfl, rfl, Nat.le_refl _, fun _ _ _ _ => rfl, fun _ h => .inl h, fun _ h => .inl h, fun _ B a h1 h2 h3 => .inl ⟨B, a, h1, h2, h3, rfl⟩⟩
theorem Since.trans {κ1 κ2 : Place} {I1 I2 : Nat → Prop} {L1 L2 : Look} {w1 w2 : World} (h : Since κ κ1 I I1 L L1 w w1) (k : Since κ1 κ2 I1 I2 L1 L2 w1 w2) (hb : ∀ j, (L.b j).isSome → κ1.box j = κ.box j) (kb : ∀ j, (L1.b j).isSome → κ2.box j = κ1.box j) : Since κ κ2 I I2 L L2 w w2 where
  os := k.os.trans h.os
  tape := k.tape.trans h.tape
  output := k.output.trans h.output
  size := Nat.le_trans h.size k.size
  keep := fun i hi h1 h2 => by
    rw [k.keep i (Nat.lt_of_lt_of_le hi h.size) (fun j hj e => ?_) (fun j B a hB hf ha e => ?_), h.keep i hi h1 h2]
    · rcases h.box j hj with h3 | h3
      · exact h1 j h3 ((hb j h3).symm.trans e)
      · omega
    · rcases h.blk j B a hB hf ha with ⟨B0, a0, h3, h4, h5, h6⟩ | h3
      · exact h2 j B0 a0 h3 h4 h5 (h6.trans e)
      · omega
  new := fun i hi => by
    have hs := h.size
    rcases k.new i hi with h1 | h1 | ⟨j, B, a, hB, hf, ha, e⟩
    · exact h.new i h1
    · exact .inr (.inl (by omega))
    · rcases h.blk j B a hB hf ha with ⟨B0, a0, h3, h4, h5, h6⟩ | h3
      · exact .inr (.inr ⟨j, B0, a0, h3, h4, h5, h6.trans e⟩)
      · exact .inr (.inl (by omega))
  box := fun j hj => by
    have hs := h.size
    rcases k.box j hj with h1 | h1
    · rcases h.box j h1 with h2 | h2
      · exact .inl h2
      · exact .inr (by rw [kb j h1]; exact h2)
    · exact .inr (by omega)
  blk := fun j B a hB hf ha => by
    have hs := h.size
    rcases k.blk j B a hB hf ha with ⟨B0, a0, h3, h4, h5, h6⟩ | h3
    · rcases h.blk j B0 a0 h3 h4 h5 with ⟨B1, a1, g3, g4, g5, g6⟩ | g3
      · exact .inl ⟨B1, a1, g3, g4, g5, g6.trans h6⟩
      · exact .inr (by omega)
    · exact .inr (by omega)
/-- What an operation on memory leaves. -/
structure Left (C : Cfg) (κ κ' : Place) (I I' : Nat → Prop) (L L' : Look) (w w' : World) : Prop where
  heap : Heap C κ' I' L' w'
  goes : Goes C κ κ' I I' L L' w w'
  since : Since κ κ' I I' L L' w w'
def Place.setBox (κ : Place) (k g : Nat) : Place := ⟨fun j => if k = j then g else κ.box j, κ.blk⟩
def Place.setBlk (κ : Place) (k : Nat) (p : Option Addr × Nat × Nat) : Place := ⟨κ.box, fun j => if k = j then p else κ.blk j⟩
/-- A new box. -/
theorem new_box (h : Heap C κ I L w) {key : Nat} {zs : List PV} {cs : Array Value} {t : TypeId} {L' : Look} (hk : L.b key = none) (hz : All2 (V1 C κ I L w) zs cs.toList) (hb : ∀ k, L'.b k = if key = k then some zs else L.b k) (hm : ∀ k, L'.m k = L.m k) :
    Left C κ (κ.setBox key w.heap.size) I I L L' w (w.alloc (.cells cs t)) := by
  have hne : ∀ k, (L.b k).isSome → key ≠ k := fun k hs e => by subst e; rw [hk] at hs; cases hs
  have hI : ∀ i, I i → (w.alloc (.cells cs t)).heap[i]? = w.heap[i]? := fun i hi => heap_old _ (h.imm i hi)
  have hg : Goes C κ (κ.setBox key w.heap.size) I I L L' w (w.alloc (.cells cs t)) := {
    imm := fun i hi => hi
    mem := hI
    box := fun k hs => ⟨by rw [hb, if_neg (hne k hs)]; exact hs, by simp only [Place.setBox, if_neg (hne k hs)]⟩
    blk := fun k B hB => ⟨B, by rw [hm]; exact hB, rfl, Nat.le_refl _, fun _ => rfl⟩ }
  have hsz : (w.alloc (.cells cs t)).heap.size = w.heap.size + 1 := Array.size_push _
  refine ⟨?_, hg, ⟨rfl, rfl, rfl, by omega, fun i hi _ _ => heap_old _ hi, fun i hi => .inl hi, fun k hk => ?_, fun k B a hB hf ha => .inl ⟨B, a, by rw [← hm]; exact hB, hf, ha, rfl⟩⟩⟩
  rotate_left
  · rw [hb] at hk
    split at hk
    · rename_i e
      right
      subst e
      exact Nat.le_of_eq (if_pos rfl).symm
    · exact .inl hk
  refine { imm := fun i hi => by have := h.imm i hi; omega, box := ?_, blk := ?_, bb := ?_, bm := ?_, mm := ?_ }
  · intro k zs' hk'
    rw [hb] at hk'
    by_cases e : key = k
    · rw [if_pos e] at hk'
      cases hk'
      subst e
      have hbx : (κ.setBox key w.heap.size).box key = w.heap.size := if_pos rfl
      rw [hbx]
      exact ⟨fun hi => by have := h.imm _ hi; omega, cs, t, heap_push _, hz.mono fun a b hab => V1.go hg hab⟩
    · rw [if_neg e] at hk'
      obtain ⟨h2, vs, e', h3, h4⟩ := h.box k zs' hk'
      simp only [Place.setBox, if_neg e]
      exact ⟨h2, vs, e', by rw [heap_old _ (h.box_lt (by rw [hk']; rfl))]; exact h3, h4.mono fun a b hab => V1.go hg hab⟩
  · intro k B hB
    rw [hm] at hB
    exact (h.blk k B hB).go rfl (fun i hi => hi) hI (fun a ha => heap_old _ (h.blk_lt hB ha)) (fun a ha hf => ((h.blk k B hB).own a ha).2 hf)
  · intro k k' h1 h2 h3
    rw [hb] at h1 h2
    simp only [Place.setBox] at h3
    by_cases e : key = k
    · by_cases e' : key = k'
      · exact e.symm.trans e'
      · rw [if_neg e'] at h2
        rw [if_pos e, if_neg e'] at h3
        have := h.box_lt h2
        omega
    · rw [if_neg e] at h1 h3
      by_cases e' : key = k'
      · rw [if_pos e'] at h3
        have := h.box_lt h1
        omega
      · rw [if_neg e'] at h2 h3
        exact h.bb k k' h1 h2 h3
  · intro k k' B a h1 h2 h3
    rw [hb] at h1
    rw [hm] at h2
    simp only [Place.setBox] at h3 ⊢
    by_cases e : key = k
    · rw [if_pos e]
      have := h.blk_lt h2 h3
      omega
    · rw [if_neg e] at h1 ⊢
      exact h.bm k k' B a h1 h2 h3
  · intro k k' B B' a a' h1 h2
    rw [hm] at h1 h2
    exact h.mm k k' B B' a a' h1 h2
/-- A box written. -/
theorem set_box (h : Heap C κ I L w) {key : Nat} {old zs : List PV} {cs : Array Value} {t : TypeId} {L' : Look} (hk : L.b key = some old) (hz : All2 (V1 C κ I L w) zs cs.toList) (hb : ∀ k, L'.b k = if key = k then some zs else L.b k) (hm : ∀ k, L'.m k = L.m k)
    {w' : World} (hw : w'.heap[κ.box key]? = some (.cells cs t (0, 0))) (ho : ∀ i, i ≠ κ.box key → w'.heap[i]? = w.heap[i]?) (hs : w'.heap.size = w.heap.size) (hos : w'.os = w.os ∧ w'.tape = w.tape ∧ w'.output = w.output) :
    Left C κ κ I I L L' w w' := by
  obtain ⟨hnI, _⟩ := h.box key old hk
  have hI : ∀ i, I i → w'.heap[i]? = w.heap[i]? := fun i hi => ho i fun e => hnI (e ▸ hi)
  have hsome : ∀ k, (L.b k).isSome → (L'.b k).isSome := fun k hs => by
    rw [hb]
    split
    · rfl
    · exact hs
  have hback : ∀ k, (L'.b k).isSome → (L.b k).isSome := fun k hs => by
    rw [hb] at hs
    split at hs
    · rename_i e; subst e; rw [hk]; rfl
    · exact hs
  have hg : Goes C κ κ I I L L' w w' := {
    imm := fun i hi => hi
    mem := hI
    box := fun k hs => ⟨hsome k hs, rfl⟩
    blk := fun k B hB => ⟨B, by rw [hm]; exact hB, rfl, Nat.le_refl _, fun _ => rfl⟩ }
  refine ⟨?_, hg, ⟨hos.1, hos.2.1, hos.2.2, by omega, fun i _ h1 _ => ho i (Ne.symm (h1 key (by rw [hk]; rfl))), fun i hi => .inl hi, fun k hk => .inl (hback k hk), fun k B a hB hf ha => .inl ⟨B, a, by rw [← hm]; exact hB, hf, ha, rfl⟩⟩⟩
  refine { imm := fun i hi => by have := h.imm i hi; omega, box := ?_, blk := ?_, bb := fun k k' h1 h2 => h.bb k k' (hback k h1) (hback k' h2), bm := ?_, mm := ?_ }
  · intro k zs' hk'
    rw [hb] at hk'
    by_cases e : key = k
    · rw [if_pos e] at hk'
      cases hk'
      subst e
      exact ⟨hnI, cs, t, hw, hz.mono fun a b hab => V1.go hg hab⟩
    · rw [if_neg e] at hk'
      obtain ⟨h2, vs, e', h3, h4⟩ := h.box k zs' hk'
      refine ⟨h2, vs, e', ?_, h4.mono fun a b hab => V1.go hg hab⟩
      rw [ho _ fun e2 => e (h.bb key k (by rw [hk]; rfl) (by rw [hk']; rfl) e2.symm)]
      exact h3
  · intro k B hB
    rw [hm] at hB
    refine (h.blk k B hB).go rfl (fun i hi => hi) hI (fun a ha => ho _ fun e => h.bm key k B a (by rw [hk]; rfl) hB ha e.symm) (fun a ha hf => ((h.blk k B hB).own a ha).2 hf)
  · intro k k' B a h1 h2
    rw [hm] at h2
    exact h.bm k k' B a (hback k h1) h2
  · intro k k' B B' a a' h1 h2
    rw [hm] at h1 h2
    exact h.mm k k' B B' a a' h1 h2
/-- A block made, or written in place, or grown. -/
theorem set_blk (h : Heap C κ I L w) {key : Nat} {B' : Blk} {p : Option Addr × Nat × Nat} {L' : Look} {w' : World} {row : Option Nat} (hm : ∀ k, L'.m k = if key = k then some B' else L.m k) (hb : ∀ k, L'.b k = L.b k) 
    (hold : ∀ B, L.m key = some B → B.froz = false ∧ B'.e = B.e ∧ B.n ≤ B'.n ∧ (B'.n = B.n → p = κ.blk key)) (hgrow : w.grownBy w' row) (hrow : ∀ g, row = some g → ∃ B a, L.m key = some B ∧ (κ.blk key).1 = some a ∧ a.block = g)
    (hp : ∀ a, p.1 = some a → w.heap.size ≤ a.block ∨ row = some a.block) (hR : BlkR C (κ.setBlk key p) I w' key B') : Left C κ (κ.setBlk key p) I I L L' w w' := by
  have hκ : ∀ k, key ≠ k → (κ.setBlk key p).blk k = κ.blk k := fun k e => if_neg e
  have hκk : (κ.setBlk key p).blk key = p := if_pos rfl
  have hnI : ∀ g, row = some g → ¬ I g := by
    intro g hg
    obtain ⟨B, a, h1, h2, rfl⟩ := hrow g hg
    exact ((h.blk key B h1).own a h2).2 (hold B h1).1
  have hkeep : ∀ i, i < w.heap.size → row ≠ some i → w'.heap[i]? = w.heap[i]? := fun i hi hr => hgrow.block i hi fun e => hr e.symm
  have hI : ∀ i, I i → w'.heap[i]? = w.heap[i]? := fun i hi => hkeep i (h.imm i hi) fun e => hnI i e hi
  have hg : Goes C κ (κ.setBlk key p) I I L L' w w' := {
    imm := fun i hi => hi
    mem := hI
    box := fun k hs => ⟨by rw [hb]; exact hs, rfl⟩
    blk := fun k B hB => by
      by_cases e : key = k
      · subst e
        obtain ⟨_, h2, h3, h4⟩ := hold B hB
        exact ⟨B', by rw [hm, if_pos rfl], h2, h3, fun e => by rw [hκk]; exact h4 e⟩
      · exact ⟨B, by rw [hm, if_neg e]; exact hB, rfl, Nat.le_refl _, fun _ => hκ k e⟩ }
  have hsz := hgrow.size
  refine ⟨?_, hg, ⟨hgrow.os, hgrow.tape, hgrow.output, hsz, fun i hi _ h2 => hkeep i hi fun e => ?_, fun i hi => .inl hi, fun k hk => .inl (by rw [← hb]; exact hk), fun k B1 a hB1 hf ha => ?_⟩⟩
  rotate_left
  · obtain ⟨B, a, h3, h4, h5⟩ := hrow i e
    exact h2 key B a h3 (hold B h3).1 h4 h5
  · rw [hm] at hB1
    by_cases e : key = k
    · subst e
      rw [hκk] at ha
      rcases hp a ha with h3 | h3
      · exact .inr h3
      · obtain ⟨B, a0, h4, h5, h6⟩ := hrow _ h3
        exact .inl ⟨B, a0, h4, (hold B h4).1, h5, h6⟩
    · rw [if_neg e] at hB1
      rw [hκ k e] at ha
      exact .inl ⟨B1, a, hB1, hf, ha, rfl⟩
  refine { imm := fun i hi => by have := h.imm i hi; omega, box := ?_, blk := ?_, bb := ?_, bm := ?_, mm := ?_ }
  · intro k zs hk
    rw [hb] at hk
    obtain ⟨h2, vs, e', h3, h4⟩ := h.box k zs hk
    refine ⟨h2, vs, e', ?_, h4.mono fun a b hab => V1.go hg hab⟩
    have hlt := h.box_lt (k := k) (by rw [hk]; rfl)
    rw [show (κ.setBlk key p).box k = κ.box k from rfl, hkeep _ hlt]
    · exact h3
    · intro e
      obtain ⟨B, a, h5, h6, h7⟩ := hrow _ e
      exact h.bm k key B a (by rw [hk]; rfl) h5 h6 h7.symm
  · intro k B hB
    rw [hm] at hB
    by_cases e : key = k
    · rw [if_pos e] at hB
      cases hB
      subst e
      exact hR
    · rw [if_neg e] at hB
      refine (h.blk k B hB).go (hκ k e) (fun i hi => hi) hI (fun a ha => hkeep _ (h.blk_lt hB ha) fun e2 => ?_) (fun a ha hf => ((h.blk k B hB).own a ha).2 hf)
      obtain ⟨B0, a0, h5, h6, h7⟩ := hrow _ e2
      cases hf : B.froz with
      | true => exact hnI _ e2 (((h.blk k B hB).own a ha).1 hf)
      | false => exact e (h.mm key k B0 B a0 a h5 hB (hold B0 h5).1 hf h6 ha h7)
  · intro k k' h1 h2 h3
    rw [hb] at h1 h2
    exact h.bb k k' h1 h2 h3
  · intro k k' B a h1 h2 h3
    rw [hb] at h1
    rw [hm] at h2
    show κ.box k ≠ a.block
    by_cases e : key = k'
    · subst e
      rw [hκk] at h3
      rcases hp a h3 with h4 | h4
      · have := h.box_lt h1
        omega
      · obtain ⟨B0, a0, h5, h6, h7⟩ := hrow _ h4
        rw [← h7]
        exact h.bm k key B0 a0 h1 h5 h6
    · rw [if_neg e] at h2
      rw [hκ _ e] at h3
      exact h.bm k k' B a h1 h2 h3
  · intro k k' B1 B2 a a' h1 h2 f1 f2 p1 p2 hab
    rw [hm] at h1 h2
    have cross : ∀ {k2 : Nat} {B2 : Blk} {a a' : Addr}, key ≠ k2 → L.m k2 = some B2 → B2.froz = false → p.1 = some a → (κ.blk k2).1 = some a' → a.block = a'.block → False := by
      intro k2 B2 a a' e hB hf ha ha' hab
      rcases hp a ha with h4 | h4
      · have := h.blk_lt hB ha'
        omega
      · obtain ⟨B0, a0, h5, h6, h7⟩ := hrow _ h4
        exact e (h.mm key k2 B0 B2 a0 a' h5 hB (hold B0 h5).1 hf h6 ha' (h7.trans hab))
    by_cases e : key = k
    · by_cases e' : key = k'
      · exact e.symm.trans e'
      · rw [if_neg e'] at h2
        subst e
        rw [hκk] at p1
        rw [hκ _ e'] at p2
        exact (cross e' h2 f2 p1 p2 hab).elim
    · rw [if_neg e] at h1
      rw [hκ _ e] at p1
      by_cases e' : key = k'
      · subst e'
        rw [hκk] at p2
        exact (cross e h1 f1 p2 p1 hab.symm).elim
      · rw [if_neg e'] at h2
        rw [hκ _ e'] at p2
        exact h.mm k k' B1 B2 a a' h1 h2 f1 f2 p1 p2 hab
/-- A block that is written no more. -/
theorem frost_one (h : Heap C κ I L w) {key : Nat} {B : Blk} {L' : Look} (hk : L.m key = some B) (hm : ∀ k, L'.m k = if key = k then some { B with froz := true } else L.m k) (hb : ∀ k, L'.b k = L.b k) :
    ∃ I', Left C κ κ I I' L L' w w ∧ ∀ a, (κ.blk key).1 = some a → I' a.block := by
  refine ⟨fun i => I i ∨ ∃ a, (κ.blk key).1 = some a ∧ a.block = i, ?_, fun a ha => .inr ⟨a, ha, rfl⟩⟩
  have hg : Goes C κ κ I (fun i => I i ∨ ∃ a, (κ.blk key).1 = some a ∧ a.block = i) L L' w w := {
    imm := fun i hi => .inl hi
    mem := fun i _ => rfl
    box := fun k hs => ⟨by rw [hb]; exact hs, rfl⟩
    blk := fun k B1 hB => by
      by_cases e : key = k
      · subst e
        rw [hk] at hB
        cases hB
        exact ⟨{ B with froz := true }, by rw [hm, if_pos rfl], rfl, Nat.le_refl _, fun _ => rfl⟩
      · exact ⟨B1, by rw [hm, if_neg e]; exact hB, rfl, Nat.le_refl _, fun _ => rfl⟩ }
  refine ⟨?_, hg, ⟨rfl, rfl, rfl, Nat.le_refl _, fun _ _ _ _ => rfl, fun i hi => ?_, fun k hk => .inl (by rw [← hb]; exact hk), fun k B1 a hB hf ha => ?_⟩⟩
  · refine { imm := ?_, box := ?_, blk := ?_, bb := ?_, bm := ?_, mm := ?_ }
    · rintro i (hi | ⟨a, ha, rfl⟩)
      · exact h.imm i hi
      · exact h.blk_lt hk ha
    · intro k zs hz
      rw [hb] at hz
      obtain ⟨h2, vs, e', h3, h4⟩ := h.box k zs hz
      refine ⟨?_, vs, e', h3, h4.mono fun a b hab => V1.go hg hab⟩
      rintro (hi | ⟨a, ha, he⟩)
      · exact h2 hi
      · exact h.bm k key B a (by rw [hz]; rfl) hk ha he.symm
    · intro k B1 hB
      rw [hm] at hB
      by_cases e : key = k
      · rw [if_pos e] at hB
        cases hB
        subst e
        have h0 := h.blk key B hk
        refine ⟨h0.len, ?_, h0.le, fun a ha => ⟨fun _ => .inr ⟨a, ha, rfl⟩, fun hf => by cases hf⟩⟩
        obtain ⟨vals, h1, h2⟩ := h0.row
        exact ⟨vals, h1.mono fun a b hab => ⟨hab.1, hab.2.mono fun c d hcd => KR_mono hg.imm hg.mem hcd⟩, h2⟩
      · rw [if_neg e] at hB
        refine (h.blk k B1 hB).go rfl hg.imm hg.mem (fun a ha => rfl) fun a ha hf => ?_
        rintro (hi | ⟨a', ha', he⟩)
        · exact ((h.blk k B1 hB).own a ha).2 hf hi
        · cases hfB : B.froz with
          | true => exact ((h.blk k B1 hB).own a ha).2 hf (he ▸ ((h.blk key B hk).own a' ha').1 hfB)
          | false => exact e (h.mm key k B B1 a' a hk hB hfB hf ha' ha he)
    · intro k k' h1 h2
      rw [hb] at h1 h2
      exact h.bb k k' h1 h2
    · intro k k' B1 a h1 h2 h3
      rw [hb] at h1
      rw [hm] at h2
      by_cases e : key = k'
      · subst e
        exact h.bm k key B a h1 hk h3
      · rw [if_neg e] at h2
        exact h.bm k k' B1 a h1 h2 h3
    · intro k k' B1 B2 a a' h1 h2 f1 f2 p1 p2 hab
      rw [hm] at h1 h2
      by_cases e : key = k
      · rw [if_pos e] at h1; cases h1; cases f1
      · rw [if_neg e] at h1
        by_cases e' : key = k'
        · rw [if_pos e'] at h2; cases h2; cases f2
        · rw [if_neg e'] at h2
          exact h.mm k k' B1 B2 a a' h1 h2 f1 f2 p1 p2 hab
  · rcases hi with hi | ⟨a, ha, rfl⟩
    · exact .inl hi
    · cases hf : B.froz with
      | true => exact .inl (((h.blk key B hk).own a ha).1 hf)
      | false => exact .inr (.inr ⟨key, B, a, hk, hf, ha, rfl⟩)
  · rw [hm] at hB
    split at hB
    · cases hB; cases hf
    · exact .inl ⟨B1, a, hB, hf, ha, rfl⟩
theorem Goes.refl : Goes C κ κ I I L L w w := ⟨fun _ h => h, fun _ _ => rfl, fun _ h => ⟨h, rfl⟩, fun _ B h => ⟨B, h, rfl, Nat.le_refl _, fun _ => rfl⟩⟩
theorem Goes.trans {κ1 κ2 : Place} {I1 I2 : Nat → Prop} {L1 L2 : Look} {w1 w2 : World} (h : Goes C κ κ1 I I1 L L1 w w1) (k : Goes C κ1 κ2 I1 I2 L1 L2 w1 w2) : Goes C κ κ2 I I2 L L2 w w2 where
  imm := fun i hi => k.imm i (h.imm i hi)
  mem := fun i hi => (k.mem i (h.imm i hi)).trans (h.mem i hi)
  box := fun j hj => ⟨(k.box j (h.box j hj).1).1, ((k.box j (h.box j hj).1).2).trans (h.box j hj).2⟩
  blk := fun j B hB => by
    obtain ⟨B1, h1, h2, h3, h4⟩ := h.blk j B hB
    obtain ⟨B2, k1, k2, k3, k4⟩ := k.blk j B1 h1
    exact ⟨B2, k1, k2.trans h2, Nat.le_trans h3 k3, fun e => (k4 (by omega)).trans (h4 (by omega))⟩
theorem Left.refl (h : Heap C κ I L w) : Left C κ κ I I L L w w := ⟨h, Goes.refl, Since.refl⟩
theorem Left.trans {κ1 κ2 : Place} {I1 I2 : Nat → Prop} {L1 L2 : Look} {w1 w2 : World} (h : Left C κ κ1 I I1 L L1 w w1) (k : Left C κ1 κ2 I1 I2 L1 L2 w1 w2) : Left C κ κ2 I I2 L L2 w w2 :=
  ⟨k.heap, h.goes.trans k.goes, h.since.trans k.since (fun j hj => (h.goes.box j hj).2) fun j hj => (k.goes.box j hj).2⟩
theorem frost_look (L1 L2 : Look) (h : ∀ k, (L1.m k).map (fun B => { B with froz := true }) = (L2.m k).map fun B => { B with froz := true }) : ∀ ks, frost L1 ks = frost L2 ks
  | [] => rfl
  | k :: ks => by
    have := h k
    rw [frost, frost, frost_look L1 L2 h ks]
    cases h1 : L1.m k with
    | none =>
      cases h2 : L2.m k with
      | none => rfl
      | some B => rw [h1, h2] at this; cases this
    | some A =>
      cases h2 : L2.m k with
      | none => rw [h1, h2] at this; cases this
      | some B =>
        rw [h1, h2] at this
        simp only [Option.map_some, Option.some.injEq] at this
        simp only [this]
theorem frost_all {t : Map PV} {b : Map (List PV)} : ∀ (ks : List Nat) {m : Map Blk} {I : Nat → Prop}, Heap C κ I (St.look ⟨t, b, m⟩) w →
    ∃ I', Left C κ κ I I' (St.look ⟨t, b, m⟩) (St.look ⟨t, b, Map.puts (frost (St.look ⟨t, b, m⟩) ks) m⟩) w w ∧ ∀ k ∈ ks, ∀ B a, Map.get k m = some B → (κ.blk k).1 = some a → I' a.block
  | [], m, I, h => ⟨I, Left.refl h, fun k hk => by cases hk⟩
  | k :: ks, m, I, h => by
    cases hk : Map.get k m with
    | none =>
      have hf : frost (St.look ⟨t, b, m⟩) (k :: ks) = frost (St.look ⟨t, b, m⟩) ks := by
        rw [frost]
        show (match Map.get k m with | some B => _ | none => _) = _
        rw [hk]
      rw [hf]
      obtain ⟨I', h1, h2⟩ := frost_all ks h
      refine ⟨I', h1, fun k' hk' B a hB ha => ?_⟩
      rcases List.mem_cons.1 hk' with rfl | hk'
      · rw [hk] at hB; cases hB
      · exact h2 k' hk' B a hB ha
    | some B =>
      have hf : frost (St.look ⟨t, b, m⟩) (k :: ks) = (k, { B with froz := true }) :: frost (St.look ⟨t, b, m⟩) ks := by
        rw [frost]
        show (match Map.get k m with | some B => _ | none => _) = _
        rw [hk]
      rw [hf, Map.puts]
      obtain ⟨I1, h1, h2⟩ := frost_one (L' := St.look ⟨t, b, Map.put k { B with froz := true } m⟩) h hk (fun j => get_put _ _ _ _) (fun j => rfl)
      have hfl : frost (St.look ⟨t, b, m⟩) ks = frost (St.look ⟨t, b, Map.put k { B with froz := true } m⟩) ks := frost_look _ _ (fun j => by
        show (Map.get j m).map _ = (Map.get j (Map.put k _ m)).map _
        rw [get_put]
        split
        · rename_i e; subst e; rw [hk]; rfl
        · rfl) ks
      rw [hfl]
      obtain ⟨I', h3, h4⟩ := frost_all ks h1.heap
      refine ⟨I', h1.trans h3, fun k' hk' B1 a hB ha => ?_⟩
      rcases List.mem_cons.1 hk' with rfl | hk'
      · exact h3.goes.imm _ (h2 a ha)
      · by_cases e : k = k'
        · subst e; exact h3.goes.imm _ (h2 a ha)
        · exact h4 k' hk' B1 a (by rw [get_put, if_neg e]; exact hB) ha
/-- A cell as it may stand where it stays. -/
theorem keepC_ok (h : Heap C κ I L w) {I' : Nat → Prop} (hI : ∀ i, I i → I' i) {c c' : PV} {v : Value} (hv : V1 C κ I L w c v) (hk : keepC C L c = some c') (hr : ∀ k ∈ refKey c, ∀ B a, L.m k = some B → (κ.blk k).1 = some a → I' a.block) : KR I' w c' v := by
  cases c with
  | ref k off len ver =>
    obtain ⟨B, A, cap, h1, rfl, h3, h4⟩ := hv
    simp only [keepC, h1, Option.bind_some] at hk
    split at hk
    · rename_i hc
      cases hk
      obtain ⟨hlo, h5, h6, h7, h8⟩ := h4 hc.1
      have hB := h.blk k B h1
      have hlen : ((B.xs.drop off).take len).length = len := by rw [List.length_take, List.length_drop, hB.len]; omega
      simp only [KR]
      refine ⟨A, cap, by rw [hlen], ?_, KRows_of fun i el he => ?_⟩
      · rw [hlen, h6]
        have := h.cap k B h1
        omega
      · rw [List.getElem?_take] at he
        split at he
        · rw [List.getElem?_drop] at he
          obtain ⟨h9, a, ha, h10⟩ := hB.cells (by omega) he
          obtain ⟨a', ha', rfl⟩ := h7 (.inl (by omega))
          rw [ha] at ha'
          cases ha'
          refine ⟨h9, _, rfl, KCells_of fun j c hj => ?_⟩
          obtain ⟨u, hu1, hu2⟩ := h10 j c hj
          refine ⟨u, ?_, ?_, KR_mono hI (fun _ _ => rfl) hu2⟩
          · rw [Nat.zero_add, Nat.zero_add, add_add' a ((off - (κ.blk k).2.2) * _) (i * _), ← Nat.add_mul, show off - (κ.blk k).2.2 + i = off + i - (κ.blk k).2.2 by omega]
            exact hu1
          · rw [add_block, add_block]
            exact hr k (by simp [refKey]) B a h1 ha
        · cases he
    · cases hk
  | nil => cases hk; exact KR_mono (c := .nil) hI (fun _ _ => rfl) hv
  | int k n => cases hk; exact KR_mono (c := .int k n) hI (fun _ _ => rfl) hv
  | bool b => cases hk; exact KR_mono (c := .bool b) hI (fun _ _ => rfl) hv
  | str s => cases hk; exact KR_mono (c := .str s) hI (fun _ _ => rfl) hv
  | arr s x => cases hk; exact KR_mono (c := .arr s x) hI (fun _ _ => rfl) hv
  | fn f cap =>
    cases cap with
    | nil =>
      cases hk
      obtain ⟨vs, rfl, h2⟩ := hv
      simp only [KR, true_and]
      cases hvs : vs.toList with
      | nil =>
        have : vs = #[] := by simpa using hvs
        rw [this]
      | cons _ _ => rw [hvs] at h2; exact h2.elim
    | cons _ _ => cases hk
  | _ => cases hk
theorem keepL_ok (h : Heap C κ I L w) {I' : Nat → Prop} (hI : ∀ i, I i → I' i) : ∀ {cs cs' : List PV} {vs : List Value}, All2 (V1 C κ I L w) cs vs → keepL C L cs = some cs' → (∀ k ∈ refKeys cs, ∀ B a, L.m k = some B → (κ.blk k).1 = some a → I' a.block) → All2 (KR I' w) cs' vs
  | [], cs', [], _, hk, _ => by cases hk; trivial
  | c :: cs, cs', v :: vs, hv, hk, hr => by
    obtain ⟨c', h1, hk⟩ := Option.bind_eq_some_iff.1 hk
    obtain ⟨r, h2, hk⟩ := Option.bind_eq_some_iff.1 hk
    cases hk
    exact ⟨keepC_ok h hI hv.1 h1 fun k hk => hr k (by simp [refKeys, hk]), keepL_ok h hI hv.2 h2 fun k hk => hr k (by simp only [refKeys, List.flatMap_cons, List.mem_append]; exact .inr hk)⟩
  | [], _, _ :: _, hv, _, _ => hv.elim
  | _ :: _, _, [], hv, _, _ => hv.elim
end
end Go.AI
/- The operations on memory. -/
namespace Go.AI
open Go Go.RowKit
/-- The memory behind what was done. -/
def memAfter (st : St) (a : Did) : St := ⟨st.t, Map.puts a.wb st.b, Map.puts a.wm st.m⟩
section
variable {C : Cfg} {good : TypeId → Bool} {κ : Place} {I : Nat → Prop} {st : St} {w : World} {ρ : Operand → Value} {o : Oper} {a : Did}
/-- The operation does what is told. -/
def Does (C : Cfg) (κ : Place) (I : Nat → Prop) (st : St) (w : World) (ρ : Operand → Value) (o : Oper) (a : Did) : Prop :=
  ∃ nx v' w' κ' I', (execOp ρ o).run C.P w = .ok nx w' ∧ (nx = .value v' ∨ nx = .skip ∧ v' = Go.undef) ∧ Left C κ κ' I I' st.look (memAfter st a).look w w' ∧ VR C κ' I' (memAfter st a).look w' a.v v'
/-- A type whose elements can be made and kept in rows. -/
structure Elem (C : Cfg) (good : TypeId → Bool) (e : TypeId) : Prop where
  ok : TOk C good e
  pos : 0 < (C.ty e).sz
  bytes : 0 < (C.ty e).bytes
  zero : (C.ty e).zero.length = (C.ty e).sz
  known : ∀ c ∈ (C.ty e).zero, c ≠ PV.undef
theorem zero_ok {t : TypeId} (hT : TOk C good t) (hz : (C.ty t).zero.length = (C.ty t).sz) (L : Look) : ∃ z, (zeroValue t).run C.P w = .ok z w ∧ All2 (V1 C κ I L w) (C.ty t).zero z.cells.toList ∧ ∃ i, C.P.info? t = some i ∧ i.zero = some z := by
  obtain ⟨i, z, h1, h2, h3⟩ := hT.zero hz
  refine ⟨z, by simp [zeroValue, typeInfo, h1, h2], h3.mono fun c v hcv => ?_, i, h1, h2⟩
  rcases hcv with ⟨rfl, h⟩ | h
  · exact h
  · exact .of_KR C κ I L w (h I w)
theorem zero_KR {e : TypeId} (hE : Elem C good e) : ∃ z i, C.P.info? e = some i ∧ i.zero = some z ∧ (zeroValue e).run C.P w = .ok z w ∧ All2 (KR I w) (C.ty e).zero z.cells.toList := by
  obtain ⟨i, z, h1, h2, h3⟩ := hE.ok.zero hE.zero
  refine ⟨z, i, h1, h2, by simp [zeroValue, typeInfo, h1, h2], All2.of h3.length fun j c v hc hv => ?_⟩
  obtain ⟨v', hv', hcv⟩ := h3.get hc
  rw [hv] at hv'
  cases hv'
  rcases hcv with ⟨h4, _⟩ | h4
  · exact absurd h4 (hE.known c (List.mem_of_getElem? hc))
  · exact h4 I w
theorem alloc_ok {d : Nat} {t : TypeId} (h : Heap C κ I st.look w) (hT : TOk C good t) (hz : (C.ty t).zero.length = (C.ty t).sz) (ho : o.op = .alloc t) (hm : memOp C st.look d o.op = some a) : Does C κ I st w ρ o a := by
  rw [ho] at hm
  simp only [memOp] at hm
  split at hm
  · rename_i hk
    cases hm
    obtain ⟨z, h1, h2, _⟩ := zero_ok (w := w) (κ := κ) (I := I) hT hz st.look
    have hleft := new_box (L' := (memAfter st { v := .ptr (64 * d) 0, wb := [(64 * d, (C.ty t).zero)] }).look) (t := t) h (Option.isNone_iff_eq_none.1 hk) h2 (fun k => get_put _ _ _ _) (fun k => rfl)
    refine ⟨.value (.pointer (some ⟨w.heap.size, 0, none⟩)), _, _, _, _, ?_, .inl rfl, hleft, ?_, ?_⟩
    · unfold execOp
      rw [ho]
      simp only [Instr.alloc, Sem.run_bind, h1, Result.andThen_ok, newVar, newRow, run_newObj, Sem.run_pure]
      rfl
    · show (Map.get (64 * d) (Map.put (64 * d) _ st.b)).isSome = true
      rw [get_put, if_pos rfl]; rfl
    · show _ = Value.pointer (some ⟨if 64 * d = 64 * d then w.heap.size else κ.box (64 * d), 0, none⟩)
      rw [if_pos rfl]
  · cases hm
theorem box_ok {d : Nat} {t : TypeId} {x : Operand} (h : Heap C κ I st.look w) (ho : o.op = .box t x) (hρ : ∀ x, VR C κ I st.look w (ev C st.look x) (ρ x)) (hm : memOp C st.look d o.op = some a) : Does C κ I st w ρ o a := by
  rw [ho] at hm
  simp only [memOp] at hm
  split at hm
  · rename_i hk
    cases hm
    obtain ⟨hk, hv, hl⟩ := hk
    have h2 := VA.cells (VR.VA (hρ x) hv)
    have hleft := new_box (L' := (memAfter st { v := .ptr (64 * d) 0, wb := [(64 * d, cellsOf (ev C st.look x))] }).look) (t := t) h (Option.isNone_iff_eq_none.1 hk) h2 (fun k => get_put _ _ _ _) (fun k => rfl)
    refine ⟨.value (.pointer (some ⟨w.heap.size, 0, none⟩)), _, _, _, _, ?_, .inl rfl, hleft, ?_, ?_⟩
    · unfold execOp
      rw [ho]
      simp only [Instr.box, Sem.run_bind, Result.andThen_ok, newVar, newRow, run_newObj, Sem.run_pure]
      rfl
    · show (Map.get (64 * d) (Map.put (64 * d) _ st.b)).isSome = true
      rw [get_put, if_pos rfl]; rfl
    · show _ = Value.pointer (some ⟨if 64 * d = 64 * d then w.heap.size else κ.box (64 * d), 0, none⟩)
      rw [if_pos rfl]
  · cases hm
theorem put_some {cs new r : List PV} {off : Nat} (h : put cs off new = some r) : off + new.length ≤ cs.length ∧ r = cs.take off ++ new ++ cs.drop (off + new.length) := by
  unfold put at h
  split at h
  · cases h; exact ⟨by assumption, rfl⟩
  · cases h
theorem storeVar_ok {t : TypeId} (hT : TOk C good t) {g off : Nat} {cur : Array Value} {e : TypeId} {v : Value} (hg : w.heap[g]? = some (.cells cur e (0, 0))) (hl : v.cells.toList.length = (C.ty t).sz) (hle : off + v.cells.toList.length ≤ cur.size) (h1 : ∀ u ∈ v.cells.toList, u.oneCell' = true) :
    (storeVar t ⟨g, off, none⟩ v).run C.P w = .ok () (w.setRow g (cur.toList.take off ++ v.cells.toList ++ cur.toList.drop (off + v.cells.toList.length)).toArray) := by
  unfold storeVar
  rw [Sem.run_bind, runSize hT, Result.andThen_ok]
  have hs : ¬ (v.cells.size ≠ (C.ty t).sz) := by simpa using hl
  rw [if_neg hs]
  have := run_storeCells_at (P := C.P) g off e v.cells.toList 0 cur w hg (by simpa using hle) h1
  simpa using this
theorem All2.mem_oneCell {L : Look} : ∀ {cs : List PV} {vs : List Value}, All2 (V1 C κ I L w) cs vs → ∀ u ∈ vs, u.oneCell' = true
  | c :: cs, v :: vs, h, u, hu => by
    rcases List.mem_cons.1 hu with rfl | hu
    · exact V1.oneCell h.1
    · exact All2.mem_oneCell h.2 u hu
  | [], [], _, _, hu => by cases hu
  | [], _ :: _, h, _, _ => h.elim
  | _ :: _, [], h, _, _ => h.elim
theorem setRow_other (w : World) (g i : Nat) (cs : Array Value) (h : i ≠ g) : (w.setRow g cs).heap[i]? = w.heap[i]? := by
  simp only [World.setRow, Array.getElem?_modify]
  rw [if_neg (by omega)]
theorem store_box_ok {d : Nat} {t : TypeId} {x y : Operand} {k off : Nat} (h : Heap C κ I st.look w) (hT : TOk C good t) (ho : o.op = .store t x y) (hρ : ∀ x, VR C κ I st.look w (ev C st.look x) (ρ x)) (hx : ev C st.look x = .ptr k off) (hm : memOp C st.look d o.op = some a) : Does C κ I st w ρ o a := by
  rw [ho] at hm
  simp only [memOp] at hm
  split at hm
  · rename_i hc
    obtain ⟨hv, hl⟩ := hc
    rw [hx] at hm
    simp only [storeAt] at hm
    obtain ⟨cs, h1, h2⟩ := Option.bind_eq_some_iff.1 hm
    obtain ⟨r, h3, h4⟩ := Option.map_eq_some_iff.1 h2
    subst h4
    obtain ⟨h5, h6⟩ := put_some h3
    have hp := hρ x
    rw [hx] at hp
    obtain ⟨_, hp⟩ := hp
    have h7 := VA.cells (VR.VA (hρ y) hv)
    obtain ⟨h9, cur, e, h10, h11⟩ := h.box k cs h1
    have hlen := h7.length
    have hlc := h11.length
    have hcs : cur.toList.length = cur.size := Array.length_toList
    have hst := storeVar_ok (w := w) (v := ρ y) (off := off) hT h10 (by omega) (by omega) (All2.mem_oneCell h7)
    have hz : All2 (V1 C κ I st.look w) r (cur.toList.take off ++ (ρ y).cells.toList ++ cur.toList.drop (off + (ρ y).cells.toList.length)).toArray.toList := by
      rw [h6, ← hlen]
      exact ((h11.take off).append h7).append (h11.drop _)
    have hleft := set_box (t := e) (L' := (memAfter st { v := .skip, wb := [(k, r)] }).look) h h1 hz (fun j => get_put _ _ _ _) (fun j => rfl) (setRow_heap w _ cur _ e _ h10) (fun i hi => setRow_other w _ i _ hi) (size_setRow w _ _) ⟨rfl, rfl, rfl⟩
    refine ⟨.skip, Go.undef, _, _, _, ?_, .inr ⟨rfl, rfl⟩, hleft, rfl⟩
    unfold execOp
    rw [ho]
    simp only [Instr.storeAt, hp, Instr.sureAddr, Sem.run_bind, Sem.run_pure, Result.andThen_ok, hst]
  · cases hm
end
end Go.AI
/- Blocks made, filled, grown. -/
namespace Go.AI
open Go Go.RowKit
theorem puts_congr {α : Type} : ∀ (fr : Map α) {m m' : Map α}, (∀ j, Map.get j m = Map.get j m') → ∀ j, Map.get j (Map.puts fr m) = Map.get j (Map.puts fr m')
  | [], _, _, h, j => h j
  | (k, v) :: r, m, m', h, j => by
    simp only [Map.puts]
    exact puts_congr r (fun i => by rw [get_put, get_put, h i]) j
theorem puts_put {α : Type} {key : Nat} {B : α} : ∀ (fr : Map α) (m : Map α), (∀ p ∈ fr, p.1 ≠ key) → ∀ j, Map.get j (Map.puts fr (Map.put key B m)) = if key = j then some B else Map.get j (Map.puts fr m)
  | [], m, _, j => get_put _ _ _ _
  | (k, v) :: r, m, h, j => by
    simp only [Map.puts]
    rw [puts_congr r (m' := Map.put key B (Map.put k v m)) (fun i => ?_) j]
    · exact puts_put r _ (fun p hp => h p (by simp [hp])) j
    · have hk := h (k, v) (by simp)
      simp only at hk
      rw [get_put, get_put, get_put, get_put]
      by_cases e1 : k = i <;> by_cases e2 : key = i
      · exact absurd (e1.trans e2.symm) hk
      · simp [e1, e2]
      · simp [e1, e2]
      · simp [e1, e2]
theorem frost_keys (L : Look) : ∀ (ks : List Nat) (p : Nat × Blk), p ∈ frost L ks → p.1 ∈ ks
  | [], _, h => by cases h
  | k :: ks, p, h => by
    rw [frost] at h
    split at h
    · rcases List.mem_cons.1 h with rfl | h
      · simp
      · exact List.mem_cons_of_mem _ (frost_keys L ks p h)
    · exact List.mem_cons_of_mem _ (frost_keys L ks p h)
section
variable {C : Cfg} {good : TypeId → Bool} {κ : Place} {I : Nat → Prop} {st : St} {w : World} {ρ : Operand → Value} {o : Oper} {a : Did}
theorem flatten_toList {sz : Nat} (hs : 0 < sz) (vals : List (List Value)) (hv : ∀ x ∈ vals, x.length = sz) (cur : Array Value) (hc : cur.size = vals.length * sz) (h : ∀ i j, j < sz → i < vals.length → cur[i * sz + j]? = (vals[i]?).bind (·[j]?)) : cur.toList = vals.flatten := by
  have hl : ∀ (vals : List (List Value)), (∀ x ∈ vals, x.length = sz) → vals.flatten.length = vals.length * sz := by
    intro vals
    induction vals with
    | nil => intro _; simp
    | cons x l ih =>
      intro h
      rw [List.flatten_cons, List.length_append, h x (by simp), ih (fun y hy => h y (by simp [hy])), List.length_cons, Nat.add_mul]
      omega
  apply List.ext_getElem?
  intro k
  rw [Array.getElem?_toList]
  by_cases hk : k < vals.length * sz
  · have e : k = k / sz * sz + k % sz := by have := Nat.div_add_mod k sz; rw [Nat.mul_comm] at this; omega
    have h1 : k % sz < sz := Nat.mod_lt _ hs
    have h2 : k / sz < vals.length := by
      rw [Nat.div_lt_iff_lt_mul hs]; exact hk
    rw [e, h _ _ h1 h2, getElem_flatten vals _ _ hv h1]
  · rw [Array.getElem?_eq_none (by omega), List.getElem?_eq_none (by rw [hl vals hv]; omega)]
/-- A block that has just been laid. -/
theorem BlkR.fresh {e : TypeId} {cur : Array Value} {n : Nat} {xs : List (List PV)} {vals : List (List Value)} {I' : Nat → Prop} {key : Nat} (hI : ∀ i, I' i → i < w.heap.size) (hx : xs.length = n) (hv : All2 (fun el vs => el.length = (C.ty e).sz ∧ All2 (KR I' w) el vs) xs vals) (hc : cur.toList = vals.flatten) (hsz : cur.size = n * (C.ty e).sz) (hn : n ≤ maxLen) :
    BlkR C (κ.setBlk key (some ⟨w.heap.size, 0, none⟩, n, 0)) I' (w.alloc (.cells cur e)) key { froz := false, n, e, xs } := by
  have hκ : (κ.setBlk key (some ⟨w.heap.size, 0, none⟩, n, 0)).blk key = (some ⟨w.heap.size, 0, none⟩, n, 0) := if_pos rfl
  refine ⟨hx, ⟨vals, by rw [hκ]; exact hv.mono fun a b hab => ⟨hab.1, hab.2.mono fun c d hcd => KR_mono (fun _ h => h) (fun i hi => heap_old _ (hI i hi)) hcd⟩, ?_⟩, by rw [hκ]; exact Nat.zero_le _, ?_⟩
  · rw [hκ]
    show World.ownsRow _ _ _ _ (.slice _ n _) n _
    have hl : vals.flatten.length = n * (C.ty e).sz := by rw [← hc, Array.length_toList, hsz]
    refine ⟨hl, .inr ⟨w.heap.size, n, cur, rfl, Nat.zero_le _, heap_push _, Nat.le_refl _, hn, hsz, ?_⟩⟩
    rw [hc, ← hl, List.take_length]
  · intro a ha
    rw [hκ] at ha
    cases ha
    refine ⟨fun h => ?_, fun _ hi => ?_⟩
    · exact absurd h (by simp)
    · exact Nat.lt_irrefl _ (hI _ hi)
/-- A block's slice, whole. -/
theorem whole_VR {key : Nat} {L' : Look} {B : Blk} {w' : World} {p : Option Addr × Nat × Nat} {κ' : Place} {I' : Nat → Prop} (hκ : κ'.blk key = p) (hL : L'.m key = some B) (hlo : p.2.2 = 0) (hp : 0 < B.n ∨ 0 < p.2.1 → ∃ a, p.1 = some a) : VR C κ' I' L' w' (.ref key 0 B.n B.n) (.slice p.1 B.n p.2.1) := by
  refine ⟨B, p.1, p.2.1, hL, rfl, Nat.le_refl _, fun _ => ⟨by rw [hκ]; omega, by omega, by rw [hκ]; omega, fun hpos => ?_, fun _ => by rw [hκ]⟩⟩
  obtain ⟨a, ha⟩ := hp hpos
  rw [hκ]
  refine ⟨a, ha, ?_⟩
  rw [ha, Nat.zero_sub, Nat.zero_mul]
  rfl
theorem makeSlice_ok {d : Nat} {t : TypeId} {x y : Operand} (h : Heap C κ I st.look w) (hu : C.P.underlying t = some (.slice (C.ty t).elem)) (hE : Elem C good (C.ty t).elem) (ho : o.op = .makeSlice t x y) (hρ : ∀ x, VR C κ I st.look w (ev C st.look x) (ρ x)) (hm : memOp C st.look d o.op = some a) : Does C κ I st w ρ o a := by
  rw [ho] at hm
  have hx := hρ x
  have hy := hρ y
  simp only [memOp] at hm
  cases h1 : ev C st.look x with
  | int k n =>
    rw [h1] at hm hx
    cases h2 : ev C st.look y with
    | int k' n' =>
      rw [h2] at hm hy
      simp only at hm
      split at hm
      · rename_i hc
        obtain ⟨rfl, rfl, h0, hb, hk⟩ := hc
        cases hm
        have hx := VR.int hx
        have hy := VR.int hy
        obtain ⟨z, i, hi, hz, hz1, hzk⟩ := zero_KR (w := w) (I := I) hE
        obtain ⟨i', hi', hsz, hby⟩ := hE.ok.info
        rw [hi] at hi'
        cases hi'
        have hbytes : (i.bytes : Int) * n ≤ 281474976710656 := by rw [hby, Int.mul_comm]; exact hb
        have hn63 : n ≤ 9223372036854775807 := by
          have h3 : (1 : Int) ≤ i.bytes := by have := hE.bytes; omega
          have h4 : 1 * n ≤ i.bytes * n := Int.mul_le_mul_of_nonneg_right h3 h0
          omega
        have hrun := run_make (P := C.P) w t (C.ty t).elem i z hu hi hz k k n n h0 (Int.le_refl _) hbytes hn63
        have hzl : z.cells.size = (C.ty (C.ty t).elem).sz := by
          have := hzk.length
          rw [hE.zero, Array.length_toList] at this
          exact this.symm
        have hcur : (madeCells z.cells (n.toNat * i.size)).toList = (List.replicate n.toNat z.cells.toList).flatten := by
          rw [hsz]
          refine flatten_toList hE.pos _ (fun x hx => by rw [List.eq_of_mem_replicate hx, Array.length_toList, hzl]) _ (by rw [size_madeCells, List.length_replicate]) fun i j hj hi => ?_
          rw [List.length_replicate] at hi
          have hlt : i * (C.ty (C.ty t).elem).sz + j < n.toNat * (C.ty (C.ty t).elem).sz := by
            have : (i + 1) * (C.ty (C.ty t).elem).sz ≤ n.toNat * (C.ty (C.ty t).elem).sz := Nat.mul_le_mul_right _ hi
            rw [Nat.add_mul] at this
            omega
          rw [List.getElem?_replicate, if_pos hi, Option.bind_some, Array.getElem?_toList]
          simp only [madeCells, Array.getElem?_map, Array.getElem?_range, hlt, if_true, Option.map_some]
          rw [hzl, Nat.mul_add_mod_of_lt hj] 
          rw [getElem!_pos z.cells j (by omega), getElem?_pos z.cells j (by omega)]
        have hR := BlkR.fresh (C := C) (κ := κ) (key := 64 * d) (e := (C.ty t).elem) (n := n.toNat) (xs := List.replicate n.toNat (C.ty (C.ty t).elem).zero) (vals := List.replicate n.toNat z.cells.toList) h.imm (by simp) (All2.of (by simp) fun i a b ha hb => by
          rw [List.getElem?_replicate] at ha hb
          split at ha
          · rename_i hi
            rw [if_pos hi] at hb
            cases ha
            cases hb
            exact ⟨hE.zero, hzk⟩
          · cases ha) hcur (by rw [size_madeCells, hsz]) (by unfold maxLen; omega)
        have hleft := set_blk (L' := (memAfter st { v := .ref (64 * d) 0 n.toNat n.toNat, wm := [(64 * d, { froz := false, n := n.toNat, e := (C.ty t).elem, xs := List.replicate n.toNat (C.ty (C.ty t).elem).zero })] }).look) h (fun j => get_put _ _ _ _) (fun j => rfl) (fun B hB => by
          have := Option.isNone_iff_eq_none.1 hk
          rw [this] at hB; cases hB) (World.grownBy_alloc w _ none) (fun g hg => by cases hg) (fun a ha => by cases ha; exact .inl (Nat.le_refl _)) hR
        refine ⟨_, .slice (some ⟨w.heap.size, 0, none⟩) n.toNat n.toNat, _, _, _, ?_, .inl rfl, hleft, whole_VR (p := (some ⟨w.heap.size, 0, none⟩, n.toNat, 0)) (B := { froz := false, n := n.toNat, e := (C.ty t).elem, xs := List.replicate n.toNat (C.ty (C.ty t).elem).zero }) (if_pos rfl) ?_ rfl fun _ => ⟨_, rfl⟩⟩
        · unfold execOp
          rw [ho]
          simp only [hx, hy, Sem.run_bind, hrun, Result.andThen_ok, Sem.run_pure]
        · show Map.get (64 * d) (Map.put (64 * d) _ st.m) = _
          rw [get_put, if_pos rfl]
      · cases hm
    | _ => rw [h2] at hm; cases hm
  | _ => rw [h1] at hm; cases hm
end
end Go.AI
/- Blocks filled, grown, written. -/
namespace Go.AI
open Go Go.RowKit
section
variable {C : Cfg} {good : TypeId → Bool} {κ : Place} {I : Nat → Prop} {st : St} {w : World} {ρ : Operand → Value} {o : Oper} {a : Did}
/-- Values kept as rows. -/
theorem keepRows_ok {L : Look} (h : Heap C κ I L w) {I' : Nat → Prop} (hI : ∀ i, I i → I' i) {sz : Nat} : ∀ {vs : List PV} {us : List Value} {xs : List (List PV)}, All2 (VR C κ I L w) vs us → keepRows C L sz vs = some xs → (∀ k ∈ refKeys (vs.flatMap cellsOf), ∀ B a, L.m k = some B → (κ.blk k).1 = some a → I' a.block) → All2 (fun el u => el.length = sz ∧ All2 (KR I' w) el u.cells.toList) xs us
  | [], [], xs, _, hk, _ => by cases hk; trivial
  | v :: vs, u :: us, xs, hv, hk, hr => by
    rw [keepRows] at hk
    obtain ⟨c, h1, hk⟩ := Option.bind_eq_some_iff.1 hk
    split at hk
    · rename_i hc
      obtain ⟨r, h2, hk⟩ := Option.bind_eq_some_iff.1 hk
      cases hk
      have hval : isVal v = true := by
        cases v with
        | undef => simp only [cellsOf, keepL, keepC, Option.bind_none] at h1; cases h1
        | skip => simp only [cellsOf, keepL, keepC, Option.bind_none] at h1; cases h1
        | tup _ => simp only [cellsOf, keepL, keepC, Option.bind_none] at h1; cases h1
        | _ => rfl
      refine ⟨⟨hc, keepL_ok h hI (VA.cells (VR.VA hv.1 hval)) h1 fun k hk => hr k ?_⟩, keepRows_ok h hI hv.2 h2 fun k hk => hr k ?_⟩
      · simp only [List.flatMap_cons, refKeys, List.flatMap_append, List.mem_append]
        exact .inl hk
      · simp only [List.flatMap_cons, refKeys, List.flatMap_append, List.mem_append]
        exact .inr hk
    · cases hk
  | [], _ :: _, _, hv, _, _ => hv.elim
  | _ :: _, [], _, hv, _, _ => hv.elim
theorem frost_some (L : Look) : ∀ (ks : List Nat) (p : Nat × Blk), p ∈ frost L ks → (L.m p.1).isSome = true
  | [], _, h => by cases h
  | k :: ks, p, h => by
    rw [frost] at h
    split at h
    · rename_i hB
      rcases List.mem_cons.1 h with rfl | h
      · simp only [hB]; rfl
      · exact frost_some L ks p h
    · exact frost_some L ks p h
theorem puts_none {α : Type} {j : Nat} : ∀ (fr : Map α) (m : Map α), (∀ p ∈ fr, p.1 ≠ j) → Map.get j (Map.puts fr m) = Map.get j m
  | [], _, _ => rfl
  | (k, v) :: r, m, h => by
    simp only [Map.puts]
    rw [puts_none r _ fun p hp => h p (by simp [hp]), get_put, if_neg (h (k, v) (by simp))]
theorem buildSlice_ok {d : Nat} {t : TypeId} {n : Nat} {parts : Array (Nat × Operand)} (h : Heap C κ I st.look w) (hu : C.P.underlying t = some (.slice (C.ty t).elem)) (hE : Elem C good (C.ty t).elem) (hsm : n * (C.ty (C.ty t).elem).sz ≤ 2 ^ 24) (ho : o.op = .buildSlice t n parts) (hρ : ∀ x, VR C κ I st.look w (ev C st.look x) (ρ x)) (hm : memOp C st.look d o.op = some a) : Does C κ I st w ρ o a := by
  rw [ho] at hm
  simp only [memOp] at hm
  split at hm
  · rename_i hc
    obtain ⟨hp, hk⟩ := hc
    obtain ⟨xs, h1, h2⟩ := Option.bind_eq_some_iff.1 hm
    cases h2
    have hk := Option.isNone_iff_eq_none.1 hk
    -- the references within are written no more
    obtain ⟨I1, hl1, hr1⟩ := frost_all (t := st.t) (b := st.b) (refKeys (parts.toList.flatMap fun p => cellsOf (ev C st.look p.2))) (m := st.m) h
    have hvs : All2 (VR C κ I st.look w) (parts.toList.map fun p => ev C st.look p.2) (parts.toList.map fun p => ρ p.2) := by
      generalize parts.toList = l
      induction l with
      | nil => trivial
      | cons p l ih => exact ⟨hρ p.2, ih⟩
    have hrows := keepRows_ok h hl1.goes.imm hvs h1 (fun k hk B a hB ha => hr1 k (by
      rw [List.flatMap_map] at hk
      exact hk) B a hB ha)
    obtain ⟨i, hi, hsz, hby⟩ := hE.ok.info
    obtain ⟨z, i', hi', hz, hz1, hzk⟩ := zero_KR (w := w) (I := I) hE
    rw [hi] at hi'
    cases hi'
    have hlen : parts.toList.length = n := by have := congrArg List.length hp; simpa using this
    have hxl : xs.length = n := by rw [hrows.length, List.length_map, hlen]
    have hzl : z.cells.size = (C.ty (C.ty t).elem).sz := by
      have := hzk.length
      rw [hE.zero, Array.length_toList] at this
      exact this.symm
    have hcells : ∀ v ∈ (parts.toList.map fun p => ρ p.2), v.cells.size = (C.ty (C.ty t).elem).sz := by
      intro v hv
      obtain ⟨j, hj⟩ := List.getElem?_of_mem hv
      have hjx : j < xs.length := by
        have := (List.getElem?_eq_some_iff.1 hj).1
        rw [hrows.length]; exact this
      obtain ⟨u, hu1, hu2, hu3⟩ := hrows.get (List.getElem?_eq_getElem hjx)
      rw [hj] at hu1
      cases hu1
      have := hu3.length
      rw [hu2, Array.length_toList] at this
      exact this.symm
    -- the row is filled
    have hfill : ∃ cur : Array Value, (Instr.buildSlice t n (parts.map fun (i, x) => (i, ρ x))).run C.P w = .ok (.slice (some ⟨w.heap.size, 0, none⟩) n n) (w.alloc (.cells cur (C.ty t).elem)) ∧ cur.size = n * (C.ty (C.ty t).elem).sz ∧ cur.toList = (parts.toList.map fun p => (ρ p.2).cells.toList).flatten := by
      have hparts : (parts.map fun (i, x) => (i, ρ x)).toList = ((parts.toList.map fun p => ρ p.2).zipIdx 0).map fun x => (x.2, x.1) := by
        rw [Array.toList_map]
        apply List.ext_getElem?
        intro j
        simp only [List.getElem?_map, List.getElem?_zipIdx, Nat.zero_add]
        cases hj : parts.toList[j]? with
        | none => rfl
        | some p =>
          have h3 : (parts.toList.map (·.1))[j]? = some p.1 := by rw [List.getElem?_map, hj]; rfl
          rw [hp] at h3
          have hjn : j < n := by
            have := (List.getElem?_eq_some_iff.1 h3).1
            simpa using this
          rw [List.getElem?_range hjn] at h3
          cases h3
          rfl
      by_cases hn : n = 0
      · subst hn
        have hnil : parts.toList = [] := List.eq_nil_of_length_eq_zero hlen
        have hnil' : parts = #[] := by rw [← Array.toList_inj]; exact hnil
        refine ⟨#[], ?_, by simp, by rw [hnil]; rfl⟩
        rw [hnil']
        have e0 : (Array.range 0).map (fun _ => (default : Value)) = #[] := by rw [← Array.toList_inj]; simp
        simp [Instr.buildSlice, runUnd hu, sizeOf, typeInfo, hi, Instr.fill, newRow]
        congr 2
      · obtain ⟨r, hr1, hr2, hr3⟩ := Great.fill_dense hE.pos (parts.toList.map fun p => ρ p.2) 0 ((Array.range (n * i.size)).map (z.cells[· % z.cells.size]!)) hcells (by simp [hlen, hsz])
        have hne : ¬ (n * i.size = 0) := by
          rw [hsz]
          have := hE.pos
          exact Nat.ne_of_gt (Nat.mul_pos (by omega) this)
        have hrun := run_buildSlice (P := C.P) w t (C.ty t).elem n (parts.map fun (i, x) => (i, ρ x)) r i z hu hi hz (by rw [hsz]; omega) hne (by rw [hparts, hsz]; rw [hsz] at hr1; exact hr1)
        refine ⟨r, hrun, by rw [hr2]; simp [hsz], ?_⟩
        refine flatten_toList hE.pos _ (fun x hx => ?_) r (by rw [hr2]; simp [hsz, hlen]) fun i' j hj hi' => ?_
        · obtain ⟨p, hp1, rfl⟩ := List.mem_map.1 hx
          rw [Array.length_toList]
          exact hcells _ (List.mem_map.2 ⟨p, hp1, rfl⟩)
        · rw [List.length_map, hlen] at hi'
          have hlt : i' * (C.ty (C.ty t).elem).sz + j < n * (C.ty (C.ty t).elem).sz := by
            have : (i' + 1) * (C.ty (C.ty t).elem).sz ≤ n * (C.ty (C.ty t).elem).sz := Nat.mul_le_mul_right _ hi'
            rw [Nat.add_mul] at this
            omega
          rw [hr3, if_pos ⟨by omega, by simpa [hlen] using hlt⟩]
          have e1 : (i' * (C.ty (C.ty t).elem).sz + j) / (C.ty (C.ty t).elem).sz = i' := by
            rw [Nat.mul_comm, Nat.mul_add_div hE.pos, Nat.div_eq_of_lt hj, Nat.add_zero]
          have e2 : (i' * (C.ty (C.ty t).elem).sz + j) % (C.ty (C.ty t).elem).sz = j := by
            rw [Nat.mul_comm, Nat.mul_add_mod, Nat.mod_eq_of_lt hj]
          rw [e1, e2, Nat.sub_zero, List.getElem?_map, List.getElem?_map]
          cases parts.toList[i']? with
          | none => rfl
          | some p => simp
    obtain ⟨cur, hrun, hcs, hcl⟩ := hfill
    have hR := BlkR.fresh (C := C) (κ := κ) (w := w) (I' := I1) (key := 64 * d) (e := (C.ty t).elem) (n := n) (xs := xs) (vals := parts.toList.map fun p => (ρ p.2).cells.toList) hl1.heap.imm hxl (by
      have := hrows
      revert this
      generalize xs = ys
      generalize parts.toList = l
      intro this
      induction l generalizing ys with
      | nil => cases ys with
        | nil => trivial
        | cons _ _ => exact this.elim
      | cons p l ih => cases ys with
        | nil => exact this.elim
        | cons y ys => exact ⟨this.1, ih ys this.2⟩) hcl hcs (by
      have : n ≤ n * (C.ty (C.ty t).elem).sz := Nat.le_mul_of_pos_right _ hE.pos
      unfold maxLen; omega)
    have hne : ∀ p ∈ frost st.look (refKeys (parts.toList.flatMap fun p => cellsOf (ev C st.look p.2))), p.1 ≠ 64 * d := by
      intro p hp he
      have := frost_some _ _ p hp
      rw [he, hk] at this
      cases this
    have hkey : Map.get (64 * d) (Map.puts (frost st.look (refKeys (parts.toList.flatMap fun p => cellsOf (ev C st.look p.2)))) st.m) = none := by
      rw [puts_none _ _ hne]; exact hk
    have hleft := set_blk (L' := (memAfter st { v := .ref (64 * d) 0 n n, wm := (64 * d, { froz := false, n, e := (C.ty t).elem, xs }) :: frost st.look (refKeys (parts.toList.flatMap fun p => cellsOf (ev C st.look p.2))) }).look) hl1.heap
      (fun j => puts_put _ _ hne j) (fun j => rfl) (fun B hB => by
          have hB' : Map.get (64 * d) (Map.puts (frost st.look (refKeys (parts.toList.flatMap fun p => cellsOf (ev C st.look p.2)))) st.m) = some B := hB
          rw [hkey] at hB'; cases hB') (World.grownBy_alloc w _ none) (fun g hg => by cases hg) (fun a ha => by cases ha; exact .inl (Nat.le_refl _)) hR
    refine ⟨_, .slice (some ⟨w.heap.size, 0, none⟩) n n, _, _, _, ?_, .inl rfl, hl1.trans hleft, whole_VR (p := (some ⟨w.heap.size, 0, none⟩, n, 0)) (B := { froz := false, n, e := (C.ty t).elem, xs }) (if_pos rfl) ?_ rfl fun _ => ⟨_, rfl⟩⟩
    · unfold execOp
      rw [ho]
      simp only [Sem.run_bind, hrun, Result.andThen_ok, Sem.run_pure]
    · exact (puts_put _ _ hne (64 * d)).trans (if_pos rfl)
  · cases hm
end
end Go.AI
