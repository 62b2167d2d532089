/- How the interpreter is evaluated. -/
import Derived.Test.YtbfochojhmggfaaGreatAiP1
import Derived.Lib.SlicesCompact
set_option linter.unusedSimpArgs false
set_option linter.unusedVariables false
/- The interpreter's equations as they are used to evaluate: one for each operation and kind of value. -/
namespace Go.AI
open Go
theorem bind_left {α β : Type} {x y : Option α} (f : α → Option β) (h : x = y) : x.bind f = y.bind f := by rw [h]
theorem map_left {α β : Type} {x y : Option α} (f : α → β) (h : x = y) : x.map f = y.map f := by rw [h]
def St.setT (st : St) (d : Nat) (v : PV) : St := ⟨Map.put d v st.t, st.b, st.m⟩
@[simp] theorem setT_mk (t : Map PV) (b : Map (List PV)) (m : Map Blk) (d : Nat) (v : PV) : St.setT ⟨t, b, m⟩ d v = ⟨Map.put d v t, b, m⟩ := rfl
def St.wr (st : St) (d : Nat) (v : PV) (wb : Map (List PV)) (wm : Map Blk) : St := ⟨Map.put d v st.t, Map.puts wb st.b, Map.puts wm st.m⟩
@[simp] theorem wr_mk (t : Map PV) (b : Map (List PV)) (m : Map Blk) (d : Nat) (v : PV) (wb : Map (List PV)) (wm : Map Blk) : St.wr ⟨t, b, m⟩ d v wb wm = ⟨Map.put d v t, Map.puts wb b, Map.puts wm m⟩ := rfl
def tget (t : Map PV) (k : Nat) : PV := (Map.get k t).getD .undef
@[simp] theorem tget_cons (j : Nat) (v : PV) (r : Map PV) (k : Nat) : tget ((j, v) :: r) k = if j = k then v else tget r k := by unfold tget; rw [Map.get]; split <;> rfl
@[simp] theorem tget_nil (k : Nat) : tget [] k = .undef := rfl
@[simp] theorem get_cons {α : Type} (j : Nat) (v : α) (r : Map α) (k : Nat) : Map.get k ((j, v) :: r) = if j = k then some v else Map.get k r := rfl
@[simp] theorem get_nil {α : Type} (k : Nat) : Map.get k ([] : Map α) = none := rfl
@[simp] theorem put_nil {α : Type} (k : Nat) (v : α) : Map.put k v [] = [(k, v)] := rfl
@[simp] theorem put_cons {α : Type} (j k : Nat) (u v : α) (r : Map α) : Map.put k v ((j, u) :: r) = if j = k then (k, v) :: r else if j < k then (k, v) :: (j, u) :: r else (j, u) :: Map.put k v r := rfl
@[simp] theorem puts_nil {α : Type} (m : Map α) : Map.puts [] m = m := rfl
@[simp] theorem puts_cons {α : Type} (k : Nat) (v : α) (r m : Map α) : Map.puts ((k, v) :: r) m = Map.puts r (Map.put k v m) := rfl
section
variable (C : Cfg) (t : Map PV) (b : Map (List PV)) (m : Map Blk)
/-- An operand's value, by the temporaries alone. -/
def evT (C : Cfg) (t : Map PV) : Operand → PV
  | .tmp k => tget t k
  | .const v => ofConst v
  | .func f => .fn f []
  | .global g => match C.glob g with
    | some cs => .cptr cs 0
    | none => .undef
@[simp] theorem evT_tmp (k : Nat) : evT C t (.tmp k) = tget t k := rfl
@[simp] theorem evT_const (v : Value) : evT C t (.const v) = ofConst v := rfl
@[simp] theorem evT_func (f : FuncId) : evT C t (.func f) = .fn f [] := rfl
theorem ev_evT (st : St) (x : Operand) : ev C st.look x = evT C st.t x := by cases x <;> rfl
theorem ev_look (st : St) : ev C st.look = evT C st.t := funext (ev_evT C st)
@[simp] theorem ofConst_int (k : IntKind) (n : Int) : ofConst (.int k n) = .int k n := rfl
@[simp] theorem ofConst_bool (x : Bool) : ofConst (.bool x) = .bool x := rfl
@[simp] theorem ofConst_str (s : ByteArray) : ofConst (.string s) = .str s := rfl
@[simp] theorem ofConst_nil : ofConst (.slice none 0 0) = .nil := rfl
@[simp] theorem cellsOf_agg (cs : List PV) : cellsOf (.agg cs) = cs := rfl
@[simp] theorem cellsOf_int (k : IntKind) (n : Int) : cellsOf (.int k n) = [.int k n] := rfl
@[simp] theorem cellsOf_bool (x : Bool) : cellsOf (.bool x) = [.bool x] := rfl
@[simp] theorem cellsOf_str (s : ByteArray) : cellsOf (.str s) = [.str s] := rfl
@[simp] theorem cellsOf_nil : cellsOf .nil = [.nil] := rfl
@[simp] theorem cellsOf_arr (s : Nat) (x : List (List PV)) : cellsOf (.arr s x) = [.arr s x] := rfl
@[simp] theorem cellsOf_oarr (s : Nat) (x : List (List PV)) : cellsOf (.oarr s x) = [.oarr s x] := rfl
@[simp] theorem cellsOf_ref (k o l v : Nat) : cellsOf (.ref k o l v) = [.ref k o l v] := rfl
@[simp] theorem cellsOf_ptr (k o : Nat) : cellsOf (.ptr k o) = [.ptr k o] := rfl
@[simp] theorem cellsOf_eptr (k i o v : Nat) : cellsOf (.eptr k i o v) = [.eptr k i o v] := rfl
@[simp] theorem cellsOf_cptr (c : List PV) (o : Nat) : cellsOf (.cptr c o) = [.cptr c o] := rfl
@[simp] theorem cellsOf_optr (c : List PV) : cellsOf (.optr c) = [.optr c] := rfl
@[simp] theorem cellsOf_fn (f : FuncId) (c : List PV) : cellsOf (.fn f c) = [.fn f c] := rfl
@[simp] theorem cellsOf_skip : cellsOf .skip = [.skip] := rfl
@[simp] theorem cellsOf_undef : cellsOf .undef = [.undef] := rfl
@[simp] theorem cellsOf_tup (c : List PV) : cellsOf (.tup c) = [.tup c] := rfl

/-- One operation upon a state. -/
def doOp (call : Caller) (f : FuncId) (d : Option Tmp) (op : Op) (st : St) : Option St := (opW C st.look call f { dst := d, op, type := 0, pos := "", after := #[], guard := none }).map (st.after d)
def skipOp (d : Option Tmp) (st : St) : Option St := some (st.after d { v := .skip })
@[simp] theorem skipOp_some (d : Tmp) (st : St) : skipOp (some d) st = some (st.setT d .skip) := rfl
@[simp] theorem skipOp_none (st : St) : skipOp none st = some st := rfl
def guardOn (v : PV) (w : Bool) (x y : Option St) : Option St := match v with
  | .bool b => if b = w then x else y
  | .skip => y
  | _ => none
theorem guardOn_congr {v v' : PV} (w : Bool) (x y : Option St) (h : v = v') : guardOn v w x y = guardOn v' w x y := by rw [h]
@[simp] theorem guardOn_bool (c w : Bool) (x y : Option St) : guardOn (.bool c) w x y = if c = w then x else y := rfl
@[simp] theorem guardOn_skip (w : Bool) (x y : Option St) : guardOn .skip w x y = y := rfl
def dstAt : List Oper → Nat → Option Tmp
  | [], _ => none
  | o :: _, 0 => o.dst
  | _ :: l, n + 1 => dstAt l n
@[simp] theorem dstAt_zero (o : Oper) (l : List Oper) : dstAt (o :: l) 0 = o.dst := rfl
@[simp] theorem dstAt_succ (o : Oper) (l : List Oper) (n : Nat) : dstAt (o :: l) (n + 1) = dstAt l n := rfl
def dstV (d : Option Tmp) (t : Map PV) : PV := match d with
  | some d => tget t d
  | none => .undef
@[simp] theorem dstV_some (d : Tmp) (t : Map PV) : dstV (some d) t = tget t d := rfl
theorem dstAt_eq : ∀ (all : List Oper) (j : Nat), (all[j]?).bind (·.dst) = dstAt all j
  | [], j => by simp [dstAt]
  | o :: l, 0 => by simp [dstAt]
  | o :: l, j + 1 => by simp [dstAt, dstAt_eq l j]
theorem opsW_nil (call : Caller) (f : FuncId) (all : List Oper) (st : St) : opsW C call f all [] st = some st := rfl
theorem opsW_cons (call : Caller) (f : FuncId) (all : List Oper) (d : Option Tmp) (op : Op) (ty : TypeId) (pos : String) (af : Array Edge) (l : List Oper) (st : St) :
    opsW C call f all (⟨d, op, ty, pos, af, none⟩ :: l) st = (doOp C call f d op st).bind (opsW C call f all l) := by
  unfold opsW doOp guardOk
  simp only [Option.bind_some, if_true]
  have : opW C st.look call f ⟨d, op, ty, pos, af, none⟩ = opW C st.look call f ⟨d, op, 0, "", #[], none⟩ := rfl
  rw [this]
  cases opW C st.look call f ⟨d, op, 0, "", #[], none⟩ <;> rfl
theorem opsW_guard (call : Caller) (f : FuncId) (all : List Oper) (d : Option Tmp) (op : Op) (ty : TypeId) (pos : String) (af : Array Edge) (j : Nat) (w : Bool) (l : List Oper) (st : St) :
    opsW C call f all (⟨d, op, ty, pos, af, some (j, w)⟩ :: l) st = (guardOn (dstV (dstAt all j) st.t) w (doOp C call f d op st) (skipOp d st)).bind (opsW C call f all l) := by
  rw [opsW]
  unfold guardOk
  simp only [dstAt_eq]
  have hw : opW C st.look call f ⟨d, op, ty, pos, af, some (j, w)⟩ = opW C st.look call f ⟨d, op, 0, "", #[], none⟩ := rfl
  cases h : dstAt all j with
  | none => rfl
  | some k =>
    show (match some (st.look.t k) with | some (.bool b) => some (b == w) | some .skip => some false | _ => none).bind _ = (guardOn (tget st.t k) w _ _).bind _
    have hk : st.look.t k = tget st.t k := rfl
    rw [hk]
    cases tget st.t k with
    | bool c =>
      simp only [Option.bind_some, guardOn]
      cases c <;> cases w <;> simp only [beq_self_eq_true, if_true, Bool.false_eq_true, if_false, reduceCtorEq, skipOp, Option.bind_some, hw, doOp] <;> first
        | rfl
        | (cases opW C st.look call f ⟨d, op, 0, "", #[], none⟩ <;> rfl)
    | skip => rfl
    | _ => rfl

/-! One equation for each operation. -/
variable (call : Caller) (f : FuncId) (d : Tmp) (st : St)
theorem doOp_pure {op : Op} (h : kindOf op = .pure) : doOp C call f (some d) op st = (pureOp C st.look op).map (st.setT d) := by
  unfold doOp opW
  simp only [h]
  cases pureOp C st.look op <;> rfl
theorem doOp_move (x : Operand) : doOp C call f (some d) (.move x) st = some (st.setT d (evT C st.t x)) := by rw [doOp_pure C call f d st rfl, pureOp, ev_evT]; rfl
theorem doOp_assign (x : Operand) : doOp C call f (some d) (.assign x) st = some (st.setT d (evT C st.t x)) := by rw [doOp_pure C call f d st rfl, pureOp, ev_evT]; rfl
def pickV (c x y : PV) : Option PV := match c with
  | .bool t => some (if t then x else y)
  | _ => none
@[simp] theorem pickV_bool (t : Bool) (x y : PV) : pickV (.bool t) x y = some (if t then x else y) := rfl
theorem doOp_pick (c x y : Operand) : doOp C call f (some d) (.pick c x y) st = (pickV (evT C st.t c) (evT C st.t x) (evT C st.t y)).map (st.setT d) := by
  rw [doOp_pure C call f d st rfl, pureOp]
  simp only [ev_evT]
  cases evT C st.t c <;> rfl
def cutMk (ti : TI) (cs : List PV) (off : Nat) : Option PV := (cut cs off ti.sz).bind (mk ti.agg)
def loadS (ti : TI) (b : Map (List PV)) (m : Map Blk) : PV → Option PV
  | .ptr k off => (Map.get k b).bind fun cs => cutMk ti cs off
  | .eptr k i off ver => (Map.get k m).bind fun B => if ver = B.n then (B.xs[i]?).bind fun cs => cutMk ti cs off else none
  | .cptr cs off => cutMk ti cs off
  | _ => none
@[simp] theorem loadS_ptr (ti : TI) (k off : Nat) : loadS ti b m (.ptr k off) = (Map.get k b).bind fun cs => cutMk ti cs off := rfl
@[simp] theorem loadS_eptr (ti : TI) (k i off ver : Nat) : loadS ti b m (.eptr k i off ver) = (Map.get k m).bind fun B => if ver = B.n then (B.xs[i]?).bind fun cs => cutMk ti cs off else none := rfl
@[simp] theorem loadS_cptr (ti : TI) (cs : List PV) (off : Nat) : loadS ti b m (.cptr cs off) = cutMk ti cs off := rfl
theorem loadAt_S (st : St) (t : TypeId) (v : PV) : loadAt C st.look t v = loadS (C.ty t) st.b st.m v := by
  cases v with
  | ptr k off => exact Option.bind_assoc _ _ _
  | eptr k i off ver =>
    refine (Option.bind_assoc _ _ _).trans (congrArg _ (funext fun B => ?_))
    split
    · exact Option.bind_assoc _ _ _
    · rfl
  | _ => rfl
theorem doOp_load (t : TypeId) (a : Operand) : doOp C call f (some d) (.load t a) st = (loadS (C.ty t) st.b st.m (evT C st.t a)).map (st.setT d) := by
  rw [doOp_pure C call f d st rfl, pureOp, ev_evT, loadAt_S]
@[simp] theorem movePtr_ptr (n k off : Nat) : movePtr n (.ptr k off) = some (.ptr k (off + n)) := rfl
@[simp] theorem movePtr_eptr (n k i off v : Nat) : movePtr n (.eptr k i off v) = some (.eptr k i (off + n) v) := rfl
@[simp] theorem movePtr_cptr (n : Nat) (cs : List PV) (off : Nat) : movePtr n (.cptr cs off) = some (.cptr cs (off + n)) := rfl
theorem doOp_nilCheck (x : Operand) : doOp C call f (some d) (.nilCheck x) st = (movePtr 0 (evT C st.t x)).map (st.setT d) := by rw [doOp_pure C call f d st rfl, pureOp, ev_evT]
theorem doOp_fieldAddr (s : TypeId) (x : Operand) (n : Nat) : doOp C call f (some d) (.fieldAddr s x n) st = (((C.ty s).offs[n]?).bind fun o => movePtr o (evT C st.t x)).map (st.setT d) := by rw [doOp_pure C call f d st rfl, pureOp, ev_evT]
@[simp] theorem asInt_int (k : IntKind) (i : Int) : asInt (.int k i) = some i := rfl
def indexS (ti te : TI) (m : Map Blk) (i : Int) : PV → Option PV
  | .arr s xs => if ti.slc ∧ s = te.sz ∧ 0 ≤ i then (xs[i.toNat]?).map fun cs => .cptr cs 0 else none
  | .ref k off len ver => if ti.slc ∧ 0 ≤ i ∧ i < len then (Map.get k m).bind fun B => if B.e = ti.elem ∧ ver = B.n ∧ off + len ≤ B.n then some (.eptr k (off + i.toNat) 0 ver) else none else none
  | v => ti.alen.bind fun n => if 0 ≤ i ∧ i < n then movePtr (i.toNat * te.sz) v else none
@[simp] theorem indexS_arr (ti te : TI) (i : Int) (s : Nat) (xs : List (List PV)) : indexS ti te m i (.arr s xs) = if ti.slc ∧ s = te.sz ∧ 0 ≤ i then (xs[i.toNat]?).map fun cs => .cptr cs 0 else none := rfl
@[simp] theorem indexS_ref (ti te : TI) (i : Int) (k off len ver : Nat) : indexS ti te m i (.ref k off len ver) = if ti.slc ∧ 0 ≤ i ∧ i < len then (Map.get k m).bind fun B => if B.e = ti.elem ∧ ver = B.n ∧ off + len ≤ B.n then some (.eptr k (off + i.toNat) 0 ver) else none else none := rfl
@[simp] theorem indexS_ptr (ti te : TI) (i : Int) (k off : Nat) : indexS ti te m i (.ptr k off) = ti.alen.bind fun n => if 0 ≤ i ∧ i < n then movePtr (i.toNat * te.sz) (.ptr k off) else none := rfl
@[simp] theorem indexS_cptr (ti te : TI) (i : Int) (cs : List PV) (off : Nat) : indexS ti te m i (.cptr cs off) = ti.alen.bind fun n => if 0 ≤ i ∧ i < n then movePtr (i.toNat * te.sz) (.cptr cs off) else none := rfl
theorem indexAt_S (st : St) (t : TypeId) (i : Int) (v : PV) : indexAt C st.look t i v = indexS (C.ty t) (C.ty (C.ty t).elem) st.m i v := by cases v <;> rfl
theorem doOp_indexAddr (t : TypeId) (x i : Operand) : doOp C call f (some d) (.indexAddr t x i) st = ((asInt (evT C st.t i)).bind fun i => indexS (C.ty t) (C.ty (C.ty t).elem) st.m i (evT C st.t x)).map (st.setT d) := by
  rw [doOp_pure C call f d st rfl, pureOp]
  simp only [ev_evT, indexAt_S]
theorem doOp_index (t : TypeId) (x i : Operand) : doOp C call f (some d) (.index t x i) st = ((asInt (evT C st.t i)).bind fun i => indexIn C t i (evT C st.t x)).map (st.setT d) := by
  rw [doOp_pure C call f d st rfl, pureOp]
  simp only [ev_evT]
def boundT (C : Cfg) (t : Map PV) (n : Int) : Option Operand → Option Int
  | none => some n
  | some x => asInt (evT C t x)
@[simp] theorem boundT_none (n : Int) : boundT C t n none = some n := rfl
@[simp] theorem boundT_some (n : Int) (x : Operand) : boundT C t n (some x) = asInt (evT C t x) := rfl
@[simp] theorem lenOf_str (ti : TI) (s : ByteArray) : lenOf ti (.str s) = if ti.st then some (s.size : Int) else none := rfl
@[simp] theorem lenOf_arr (ti : TI) (s : Nat) (xs : List (List PV)) : lenOf ti (.arr s xs) = if ti.slc then some (xs.length : Int) else none := rfl
@[simp] theorem lenOf_nil (ti : TI) : lenOf ti .nil = if ti.slc then some 0 else none := rfl
@[simp] theorem lenOf_ref (ti : TI) (k o l v : Nat) : lenOf ti (.ref k o l v) = if ti.slc then some (l : Int) else none := rfl
def sliceS (C : Cfg) (m : Map Blk) (t : TypeId) (x : PV) (l h : Int) : Option PV :=
  match x with
  | .arr s xs => if (C.ty t).slc ∧ s = (C.ty (C.ty t).elem).sz ∧ 0 ≤ l ∧ l ≤ h ∧ h ≤ xs.length then some (.arr s ((xs.drop l.toNat).take (h.toNat - l.toNat))) else none
  | .ref k off len ver => if (C.ty t).slc ∧ 0 ≤ l ∧ l ≤ h ∧ h ≤ len then (Map.get k m).bind fun B => if B.e = (C.ty t).elem ∧ ver = B.n then some (.ref k (off + l.toNat) (h.toNat - l.toNat) ver) else none else none
  | .nil => if (C.ty t).slc ∧ l = 0 ∧ h = 0 then some .nil else none
  | .str s => if (C.ty t).st ∧ 0 ≤ l ∧ l ≤ h ∧ h ≤ s.size then some (.str (s.extract l.toNat h.toNat)) else none
  | _ => none
@[simp] theorem sliceS_arr (ty : TypeId) (s : Nat) (xs : List (List PV)) (l h : Int) : sliceS C m ty (.arr s xs) l h = if (C.ty ty).slc ∧ s = (C.ty (C.ty ty).elem).sz ∧ 0 ≤ l ∧ l ≤ h ∧ h ≤ xs.length then some (.arr s ((xs.drop l.toNat).take (h.toNat - l.toNat))) else none := rfl
@[simp] theorem sliceS_ref (ty : TypeId) (k off len v : Nat) (l h : Int) : sliceS C m ty (.ref k off len v) l h = if (C.ty ty).slc ∧ 0 ≤ l ∧ l ≤ h ∧ h ≤ len then (Map.get k m).bind fun B => if B.e = (C.ty ty).elem ∧ v = B.n then some (.ref k (off + l.toNat) (h.toNat - l.toNat) v) else none else none := rfl
@[simp] theorem sliceS_nil (ty : TypeId) (l h : Int) : sliceS C m ty .nil l h = if (C.ty ty).slc ∧ l = 0 ∧ h = 0 then some .nil else none := rfl
@[simp] theorem sliceS_str (ty : TypeId) (s : ByteArray) (l h : Int) : sliceS C m ty (.str s) l h = if (C.ty ty).st ∧ 0 ≤ l ∧ l ≤ h ∧ h ≤ s.size then some (.str (s.extract l.toNat h.toNat)) else none := rfl
theorem sliceOf_S (st : St) (t : TypeId) (x : PV) (l h : Int) : sliceOf C st.look t x l h = sliceS C st.m t x l h := by cases x <;> rfl
theorem bound_T (st : St) (n : Int) (x : Option Operand) : bound C st.look n x = boundT C st.t n x := by cases x <;> simp [bound, boundT, ev_evT]
theorem doOp_slice (t : TypeId) (x : Operand) (lo hi : Option Operand) : doOp C call f (some d) (.slice t x lo hi none) st = ((boundT C st.t 0 lo).bind fun l => (lenOf (C.ty t) (evT C st.t x)).bind fun n => (boundT C st.t n hi).bind fun h => sliceS C st.m t (evT C st.t x) l h).map (st.setT d) := by
  rw [doOp_pure C call f d st rfl, pureOp]
  simp only [ev_evT, bound_T, sliceOf_S]
theorem doOp_binOp (o : BinOp) (t : TypeId) (x y : Operand) (ty : TypeId) : doOp C call f (some d) (.binOp o t x y ty) st = (binOp (C.ty t) o (evT C st.t x) (evT C st.t y)).map (st.setT d) := by
  rw [doOp_pure C call f d st rfl, pureOp, ev_evT, ev_evT]
def notV : PV → Option PV
  | .bool b => some (.bool (!b))
  | _ => none
@[simp] theorem notV_bool (x : Bool) : notV (.bool x) = some (.bool (!x)) := rfl
theorem doOp_not (t : TypeId) (x : Operand) : doOp C call f (some d) (.unOp .not t x) st = (notV (evT C st.t x)).map (st.setT d) := by
  rw [doOp_pure C call f d st rfl, pureOp, ev_evT]; cases evT C st.t x <;> rfl
def negV : PV → Option PV
  | .int k n => some (.int k (k.wrap (0 - n)))
  | _ => none
@[simp] theorem negV_int (k : IntKind) (n : Int) : negV (.int k n) = some (.int k (k.wrap (0 - n))) := rfl
theorem doOp_neg (t : TypeId) (x : Operand) : doOp C call f (some d) (.unOp .neg t x) st = (negV (evT C st.t x)).map (st.setT d) := by
  rw [doOp_pure C call f d st rfl, pureOp, ev_evT]; cases evT C st.t x <;> rfl
def convV (k : Option IntKind) : PV → Option PV
  | .int _ n => k.map fun k => .int k (k.wrap n)
  | _ => none
@[simp] theorem convV_int (k k' : IntKind) (n : Int) : convV (some k) (.int k' n) = some (.int k (k.wrap n)) := rfl
theorem doOp_convert (s t : TypeId) (x : Operand) : doOp C call f (some d) (.convert s t x) st = (convV (C.ty t).ik (evT C st.t x)).map (st.setT d) := by
  rw [doOp_pure C call f d st rfl, pureOp, ev_evT]; cases (C.ty t).ik <;> cases evT C st.t x <;> rfl
def extrV (i : Nat) : PV → Option PV
  | .tup vs => vs[i]?
  | _ => none
@[simp] theorem extrV_tup (i : Nat) (vs : List PV) : extrV i (.tup vs) = vs[i]? := rfl
theorem doOp_extract (x : Operand) (i : Nat) : doOp C call f (some d) (.extract x i) st = (extrV i (evT C st.t x)).map (st.setT d) := by
  rw [doOp_pure C call f d st rfl, pureOp, ev_evT]; cases evT C st.t x <;> rfl
def placeT (ti te : TI) (i : Nat) : Option (Nat × Nat) := match ti.alen with | some _ => some (i * te.sz, te.sz) | none => ti.offs[i]?.bind fun o => ti.fsz[i]?.map fun n => (o, n)
def fillT (C : Cfg) (ti te : TI) (t : Map PV) : List (Nat × Operand) → List PV → Option (List PV)
  | [], cs => some cs
  | (i, x) :: r, cs => (placeT ti te i).bind fun p => if isVal (evT C t x) ∧ (cellsOf (evT C t x)).length = p.2 then (put cs p.1 (cellsOf (evT C t x))).bind (fillT C ti te t r) else none
@[simp] theorem fillT_nil (ti te : TI) (cs : List PV) : fillT C ti te t [] cs = some cs := rfl
@[simp] theorem fillT_cons (ti te : TI) (i : Nat) (x : Operand) (r : List (Nat × Operand)) (cs : List PV) : fillT C ti te t ((i, x) :: r) cs = (placeT ti te i).bind fun p => if isVal (evT C t x) ∧ (cellsOf (evT C t x)).length = p.2 then (put cs p.1 (cellsOf (evT C t x))).bind (fillT C ti te t r) else none := rfl
theorem fill_T (st : St) (t : TypeId) : ∀ (l : List (Nat × Operand)) (cs : List PV), fill C st.look t l cs = fillT C (C.ty t) (C.ty (C.ty t).elem) st.t l cs
  | [], cs => rfl
  | (i, x) :: r, cs => by
    rw [fill, fillT, ev_evT]
    refine congrArg _ (funext fun o => ?_)
    split
    · exact congrArg _ (funext fun c => fill_T st t r c)
    · rfl
@[simp] theorem isVal_agg (cs : List PV) : isVal (.agg cs) = true := rfl
@[simp] theorem isVal_int (k : IntKind) (n : Int) : isVal (.int k n) = true := rfl
@[simp] theorem isVal_bool (x : Bool) : isVal (.bool x) = true := rfl
@[simp] theorem isVal_str (s : ByteArray) : isVal (.str s) = true := rfl
@[simp] theorem isVal_nil : isVal .nil = true := rfl
@[simp] theorem isVal_arr (s : Nat) (x : List (List PV)) : isVal (.arr s x) = true := rfl
@[simp] theorem isVal_ref (k o l v : Nat) : isVal (.ref k o l v) = true := rfl
@[simp] theorem isVal_ptr (k o : Nat) : isVal (.ptr k o) = true := rfl
@[simp] theorem isVal_cptr (c : List PV) (o : Nat) : isVal (.cptr c o) = true := rfl
@[simp] theorem isVal_fn (f : FuncId) (c : List PV) : isVal (.fn f c) = true := rfl
theorem doOp_build (t : TypeId) (parts : Array (Nat × Operand)) : doOp C call f (some d) (.build t parts) st = ((fillT C (C.ty t) (C.ty (C.ty t).elem) st.t parts.toList (C.ty t).zero).map PV.agg).map (st.setT d) := by
  rw [doOp_pure C call f d st rfl, pureOp, fill_T]
theorem doOp_makeFunc (g : FuncId) (xs cap : Array Operand) : doOp C call f (some d) (.makeFunc (.func g) xs cap) st = if (cap.toList.map (evT C st.t)).all isPtr then some (st.setT d (.fn g (cap.toList.map (evT C st.t)))) else none := by
  rw [doOp_pure C call f d st rfl, pureOp, ev_look]; split <;> rfl
theorem doOp_len (x : Operand) (t : TypeId) : doOp C call f (some d) (.call { callee := .builtin .len, args := #[x], argTypes := #[t] }) st = ((lenOf (C.ty t) (evT C st.t x)).map fun n => PV.int .i64 n).map (st.setT d) := by
  rw [doOp_pure C call f d st rfl, pureOp]
  simp only [ev_evT]
def minV : PV → PV → Option PV
  | .int k a, .int k' b => if k = k' then some (.int k (if b < a then b else a)) else none
  | _, _ => none
def maxV : PV → PV → Option PV
  | .int k a, .int k' b => if k = k' then some (.int k (if b > a then b else a)) else none
  | _, _ => none
@[simp] theorem minV_int (k : IntKind) (a b : Int) : minV (.int k a) (.int k b) = some (.int k (if b < a then b else a)) := by simp [minV]
@[simp] theorem maxV_int (k : IntKind) (a b : Int) : maxV (.int k a) (.int k b) = some (.int k (if b > a then b else a)) := by simp [maxV]
theorem doOp_min (x y : Operand) (ts : Array TypeId) : doOp C call f (some d) (.call { callee := .builtin .min, args := #[x, y], argTypes := ts }) st = (minV (evT C st.t x) (evT C st.t y)).map (st.setT d) := by
  rw [doOp_pure C call f d st rfl, pureOp]
  simp only [List.map_cons, List.map_nil, ev_evT]
  cases evT C st.t x <;> cases evT C st.t y <;> rfl
theorem doOp_max (x y : Operand) (ts : Array TypeId) : doOp C call f (some d) (.call { callee := .builtin .max, args := #[x, y], argTypes := ts }) st = (maxV (evT C st.t x) (evT C st.t y)).map (st.setT d) := by
  rw [doOp_pure C call f d st rfl, pureOp]
  simp only [List.map_cons, List.map_nil, ev_evT]
  cases evT C st.t x <;> cases evT C st.t y <;> rfl
theorem doOp_field (t : TypeId) (x : Operand) (n : Nat) : doOp C call f (some d) (.field t x n) st = (match evT C st.t x with | .agg cs => ((C.ty t).offs[n]?).bind fun o => ((C.ty t).fsz[n]?).bind fun n' => ((C.ty t).fagg[n]?).bind fun g => (cut cs o n').bind (mk g) | _ => none).map (st.setT d) := by
  rw [doOp_pure C call f d st rfl, pureOp, ev_evT]; rfl
/-! Arithmetic. -/
variable (k : IntKind) (x y : Int) (ti : TI)
@[simp] theorem binOp_eql : binOp ti .eql (.int k x) (.int k y) = some (.bool (decide (x = y))) := by simp [binOp, isShift, intOp, intCmp]
@[simp] theorem binOp_neq : binOp ti .neq (.int k x) (.int k y) = some (.bool (!decide (x = y))) := by simp [binOp, isShift, intOp, intCmp]
@[simp] theorem binOp_lss : binOp ti .lss (.int k x) (.int k y) = some (.bool (decide (x < y))) := by simp [binOp, isShift, intOp, intCmp]
@[simp] theorem binOp_leq : binOp ti .leq (.int k x) (.int k y) = some (.bool (decide (x ≤ y))) := by simp [binOp, isShift, intOp, intCmp]
@[simp] theorem binOp_gtr : binOp ti .gtr (.int k x) (.int k y) = some (.bool (decide (y < x))) := by simp [binOp, isShift, intOp, intCmp]
@[simp] theorem binOp_geq : binOp ti .geq (.int k x) (.int k y) = some (.bool (decide (y ≤ x))) := by simp [binOp, isShift, intOp, intCmp]
@[simp] theorem binOp_add : binOp ti .add (.int k x) (.int k y) = some (.int k (k.wrap (x + y))) := by simp [binOp, isShift, intOp]
@[simp] theorem binOp_sub : binOp ti .sub (.int k x) (.int k y) = some (.int k (k.wrap (x - y))) := by simp [binOp, isShift, intOp]
@[simp] theorem binOp_mul : binOp ti .mul (.int k x) (.int k y) = some (.int k (k.wrap (x * y))) := by simp [binOp, isShift, intOp]
@[simp] theorem binOp_quo : binOp ti .quo (.int k x) (.int k y) = if y = 0 then none else some (.int k (k.wrap (x.tdiv y))) := by simp [binOp, isShift, intOp]
@[simp] theorem binOp_rem : binOp ti .rem (.int k x) (.int k y) = if y = 0 then none else some (.int k (x.tmod y)) := by simp [binOp, isShift, intOp]
@[simp] theorem binOp_eqlB (p q : Bool) : binOp ti .eql (.bool p) (.bool q) = if ti.bl then some (.bool (p == q)) else none := rfl
@[simp] theorem binOp_neqB (p q : Bool) : binOp ti .neq (.bool p) (.bool q) = if ti.bl then some (.bool (!(p == q))) else none := rfl
@[simp] theorem binOp_eqlS (p q : ByteArray) : binOp ti .eql (.str p) (.str q) = some (.bool (p.toList == q.toList)) := rfl
@[simp] theorem binOp_neqS (p q : ByteArray) : binOp ti .neq (.str p) (.str q) = some (.bool (!(p.toList == q.toList))) := rfl
@[simp] theorem binOp_addS (p q : ByteArray) : binOp ti .add (.str p) (.str q) = if p.size + q.size ≤ 9223372036854775807 then some (.str (p ++ q)) else none := rfl
@[simp] theorem binOp_eqlA (p q : List PV) : binOp ti .eql (.agg p) (.agg q) = if ti.eqi ∧ p.length = ti.sz then (eqCells p q).map .bool else none := rfl
@[simp] theorem binOp_neqA (p q : List PV) : binOp ti .neq (.agg p) (.agg q) = if ti.eqi ∧ p.length = ti.sz then (eqCells p q).map fun t => .bool (!t) else none := rfl
@[simp] theorem isPtr_ptr (k o : Nat) : isPtr (.ptr k o) = true := rfl
@[simp] theorem isPtr_cptr (c : List PV) (o : Nat) : isPtr (.cptr c o) = true := rfl
end
/-! Memory. -/
section
variable (C : Cfg) (t : Map PV) (b : Map (List PV)) (m : Map Blk) (call : Caller) (f : FuncId) (d : Tmp) (st : St)
theorem doOp_alloc (ty : TypeId) : doOp C call f (some d) (.alloc ty) st = if (Map.get (64 * d) st.b).isNone then some (st.wr d (.ptr (64 * d) 0) [(64 * d, (C.ty ty).zero)] []) else none := by
  unfold doOp opW
  simp only [kindOf, memOp, Option.getD_some]
  have : st.look.b (64 * d) = Map.get (64 * d) st.b := rfl
  rw [this]
  split <;> rfl
theorem doOp_box (ty : TypeId) (x : Operand) : doOp C call f (some d) (.box ty x) st = if (Map.get (64 * d) st.b).isNone ∧ isVal (evT C st.t x) ∧ (cellsOf (evT C st.t x)).length = (C.ty ty).sz then some (st.wr d (.ptr (64 * d) 0) [(64 * d, cellsOf (evT C st.t x))] []) else none := by
  unfold doOp opW
  simp only [kindOf, memOp, Option.getD_some, ev_evT]
  have : st.look.b (64 * d) = Map.get (64 * d) st.b := rfl
  rw [this]
  split <;> rfl
def keepCS (C : Cfg) (m : Map Blk) : PV → Option PV
  | .ref k off len ver => (Map.get k m).bind fun B => if ver = B.n ∧ off + len ≤ B.n then some (.arr (C.ty B.e).sz ((B.xs.drop off).take len)) else none
  | .nil => some .nil
  | .int k n => some (.int k n)
  | .bool b => some (.bool b)
  | .str s => some (.str s)
  | .arr s xs => some (.arr s xs)
  | .fn f [] => some (.fn f [])
  | _ => none
@[simp] theorem keepCS_ref (k off len ver : Nat) : keepCS C m (.ref k off len ver) = (Map.get k m).bind fun B => if ver = B.n ∧ off + len ≤ B.n then some (.arr (C.ty B.e).sz ((B.xs.drop off).take len)) else none := rfl
@[simp] theorem keepCS_nil : keepCS C m .nil = some .nil := rfl
@[simp] theorem keepCS_int (k : IntKind) (n : Int) : keepCS C m (.int k n) = some (.int k n) := rfl
@[simp] theorem keepCS_bool (x : Bool) : keepCS C m (.bool x) = some (.bool x) := rfl
@[simp] theorem keepCS_str (s : ByteArray) : keepCS C m (.str s) = some (.str s) := rfl
@[simp] theorem keepCS_arr (s : Nat) (xs : List (List PV)) : keepCS C m (.arr s xs) = some (.arr s xs) := rfl
@[simp] theorem keepCS_fn (g : FuncId) : keepCS C m (.fn g []) = some (.fn g []) := rfl
theorem keepC_S (v : PV) : keepC C st.look v = keepCS C st.m v := by
  cases v with
  | fn f cap => cases cap <;> rfl
  | _ => rfl
def keepLS (C : Cfg) (m : Map Blk) : List PV → Option (List PV)
  | [] => some []
  | c :: cs => (keepCS C m c).bind fun c => (keepLS C m cs).bind fun cs => some (c :: cs)
@[simp] theorem keepLS_nil : keepLS C m [] = some [] := rfl
@[simp] theorem keepLS_cons (c : PV) (cs : List PV) : keepLS C m (c :: cs) = (keepCS C m c).bind fun c => (keepLS C m cs).bind fun cs => some (c :: cs) := rfl
theorem keepL_S : ∀ (cs : List PV), keepL C st.look cs = keepLS C st.m cs
  | [] => rfl
  | c :: cs => by rw [keepL, keepLS, keepC_S, keepL_S cs]
def frostS (m : Map Blk) : List Nat → Map Blk
  | [] => []
  | k :: ks => match Map.get k m with
    | some B => (k, { B with froz := true }) :: frostS m ks
    | none => frostS m ks
@[simp] theorem frostS_nil : frostS m [] = [] := rfl
@[simp] theorem frostS_cons (k : Nat) (ks : List Nat) : frostS m (k :: ks) = match Map.get k m with
    | some B => (k, { B with froz := true }) :: frostS m ks
    | none => frostS m ks := rfl
theorem frost_S : ∀ (ks : List Nat), frost st.look ks = frostS st.m ks
  | [] => rfl
  | k :: ks => by
    have : st.look.m k = Map.get k st.m := rfl
    rw [frost, frostS, this, frost_S ks]
    cases Map.get k st.m <;> rfl
@[simp] theorem refKey_ref (k o l v : Nat) : refKey (.ref k o l v) = [k] := rfl
@[simp] theorem refKey_nil : refKey .nil = [] := rfl
@[simp] theorem refKey_int (k : IntKind) (n : Int) : refKey (.int k n) = [] := rfl
@[simp] theorem refKey_bool (x : Bool) : refKey (.bool x) = [] := rfl
@[simp] theorem refKey_str (s : ByteArray) : refKey (.str s) = [] := rfl
@[simp] theorem refKey_arr (s : Nat) (xs : List (List PV)) : refKey (.arr s xs) = [] := rfl
@[simp] theorem refKey_fn (g : FuncId) (c : List PV) : refKey (.fn g c) = [] := rfl
@[simp] theorem refKey_ptr (k o : Nat) : refKey (.ptr k o) = [] := rfl
@[simp] theorem refKey_eptr (k i o v : Nat) : refKey (.eptr k i o v) = [] := rfl
@[simp] theorem refKey_cptr (c : List PV) (o : Nat) : refKey (.cptr c o) = [] := rfl
@[simp] theorem refKey_skip : refKey .skip = [] := rfl
@[simp] theorem refKey_undef : refKey .undef = [] := rfl
@[simp] theorem refKey_tup (c : List PV) : refKey (.tup c) = [] := rfl
@[simp] theorem refKeys_nil : refKeys [] = [] := rfl
@[simp] theorem refKeys_cons (c : PV) (cs : List PV) : refKeys (c :: cs) = refKey c ++ refKeys cs := rfl
@[simp] theorem refKeys_append (a c : List PV) : refKeys (a ++ c) = refKeys a ++ refKeys c := by simp [refKeys]
@[simp] theorem ptrKey_ref (k o l v : Nat) : ptrKey (.ref k o l v) = [] := rfl
@[simp] theorem ptrKey_nil : ptrKey .nil = [] := rfl
@[simp] theorem ptrKey_int (k : IntKind) (n : Int) : ptrKey (.int k n) = [] := rfl
@[simp] theorem ptrKey_bool (x : Bool) : ptrKey (.bool x) = [] := rfl
@[simp] theorem ptrKey_str (s : ByteArray) : ptrKey (.str s) = [] := rfl
@[simp] theorem ptrKey_arr (s : Nat) (xs : List (List PV)) : ptrKey (.arr s xs) = [] := rfl
@[simp] theorem ptrKey_ptr (k o : Nat) : ptrKey (.ptr k o) = [k] := rfl
@[simp] theorem ptrKey_eptr (k i o v : Nat) : ptrKey (.eptr k i o v) = [] := rfl
@[simp] theorem ptrKey_cptr (c : List PV) (o : Nat) : ptrKey (.cptr c o) = [] := rfl
@[simp] theorem ptrKey_skip : ptrKey .skip = [] := rfl
@[simp] theorem ptrKey_undef : ptrKey .undef = [] := rfl
@[simp] theorem ptrKey_fn_nil (g : FuncId) : ptrKey (.fn g []) = [] := rfl
@[simp] theorem ptrKey_fn_ptr (g : FuncId) (k o : Nat) (r : List PV) : ptrKey (.fn g (.ptr k o :: r)) = k :: ptrKey (.fn g r) := rfl
@[simp] theorem ptrKey_fn_cptr (g : FuncId) (c : List PV) (o : Nat) (r : List PV) : ptrKey (.fn g (.cptr c o :: r)) = ptrKey (.fn g r) := rfl
@[simp] theorem ptrKey_tup (c : List PV) : ptrKey (.tup c) = [] := rfl
@[simp] theorem ptrKeys_nil : ptrKeys [] = [] := rfl
@[simp] theorem ptrKeys_cons (c : PV) (cs : List PV) : ptrKeys (c :: cs) = ptrKey c ++ ptrKeys cs := rfl
@[simp] theorem ptrKeys_append (a c : List PV) : ptrKeys (a ++ c) = ptrKeys a ++ ptrKeys c := by simp [ptrKeys]
def storeS (C : Cfg) (b : Map (List PV)) (m : Map Blk) (cells : List PV) : PV → Option (Map (List PV) × Map Blk)
  | .ptr k off => (Map.get k b).bind fun cs => (put cs off cells).map fun cs => ([(k, cs)], [])
  | .eptr k i off ver => (Map.get k m).bind fun B => if B.froz = false ∧ ver = B.n then (B.xs[i]?).bind fun cs => (keepLS C m cells).bind fun new => (put cs off new).bind fun cs =>
      if (refKeys cells).contains k then none else some ([], (k, { B with xs := B.xs.set i cs }) :: frostS m (refKeys cells))
    else none
  | _ => none
@[simp] theorem storeS_ptr (cells : List PV) (k off : Nat) : storeS C b m cells (.ptr k off) = (Map.get k b).bind fun cs => (put cs off cells).map fun cs => ([(k, cs)], []) := rfl
@[simp] theorem storeS_eptr (cells : List PV) (k i off ver : Nat) : storeS C b m cells (.eptr k i off ver) = (Map.get k m).bind fun B => if B.froz = false ∧ ver = B.n then (B.xs[i]?).bind fun cs => (keepLS C m cells).bind fun new => (put cs off new).bind fun cs =>
      if (refKeys cells).contains k then none else some ([], (k, { B with xs := B.xs.set i cs }) :: frostS m (refKeys cells))
    else none := rfl
def St.wrs (st : St) (w : Map (List PV) × Map Blk) : St := ⟨st.t, Map.puts w.1 st.b, Map.puts w.2 st.m⟩
@[simp] theorem wrs_mk (w : Map (List PV) × Map Blk) : St.wrs ⟨t, b, m⟩ w = ⟨t, Map.puts w.1 b, Map.puts w.2 m⟩ := rfl
theorem storeAt_S (cells : List PV) (v : PV) : storeAt C st.look cells v = (storeS C st.b st.m cells v).map fun w => { v := .skip, wb := w.1, wm := w.2 } := by
  cases v with
  | ptr k off =>
    show (Map.get k st.b).bind _ = Option.map _ ((Map.get k st.b).bind _)
    cases Map.get k st.b with
    | none => rfl
    | some cs => simp only [Option.bind_some]; cases put cs off cells <;> rfl
  | eptr k i off ver =>
    show (Map.get k st.m).bind _ = Option.map _ ((Map.get k st.m).bind _)
    cases Map.get k st.m with
    | none => rfl
    | some B =>
      simp only [Option.bind_some, keepL_S, frost_S]
      split
      · cases B.xs[i]? with
        | none => rfl
        | some cs =>
          simp only [Option.bind_some]
          cases keepLS C st.m cells with
          | none => rfl
          | some new =>
            simp only [Option.bind_some]
            cases put cs off new with
            | none => rfl
            | some cs => simp only [Option.bind_some]; split <;> rfl
      · rfl
  | _ => rfl
theorem doOp_store (ty : TypeId) (a x : Operand) : doOp C call f none (.store ty a x) st = if isVal (evT C st.t x) ∧ (cellsOf (evT C st.t x)).length = (C.ty ty).sz then (storeS C st.b st.m (cellsOf (evT C st.t x)) (evT C st.t a)).map st.wrs else none := by
  unfold doOp opW
  simp only [kindOf, memOp, ev_evT, storeAt_S]
  split
  · cases storeS C st.b st.m (cellsOf (evT C st.t x)) (evT C st.t a) <;> rfl
  · rfl
def keepRowsS (C : Cfg) (m : Map Blk) (sz : Nat) : List PV → Option (List (List PV))
  | [] => some []
  | v :: vs => (keepLS C m (cellsOf v)).bind fun c => if c.length = sz then (keepRowsS C m sz vs).bind fun r => some (c :: r) else none
@[simp] theorem keepRowsS_nil (sz : Nat) : keepRowsS C m sz [] = some [] := rfl
@[simp] theorem keepRowsS_cons (sz : Nat) (v : PV) (vs : List PV) : keepRowsS C m sz (v :: vs) = (keepLS C m (cellsOf v)).bind fun c => if c.length = sz then (keepRowsS C m sz vs).bind fun r => some (c :: r) else none := rfl
theorem keepRows_S (sz : Nat) : ∀ (vs : List PV), keepRows C st.look sz vs = keepRowsS C st.m sz vs
  | [] => rfl
  | v :: vs => by rw [keepRows, keepRowsS, keepL_S, keepRows_S sz vs]
theorem doOp_buildSlice (ty : TypeId) (n : Nat) (parts : Array (Nat × Operand)) : doOp C call f (some d) (.buildSlice ty n parts) st =
    if parts.toList.map (·.1) = List.range n ∧ (Map.get (64 * d) st.m).isNone then
      (keepRowsS C st.m (C.ty (C.ty ty).elem).sz (parts.toList.map fun p => evT C st.t p.2)).map fun xs =>
        st.wr d (.ref (64 * d) 0 n n) [] ((64 * d, { froz := false, n, e := (C.ty ty).elem, xs }) :: frostS st.m (refKeys (parts.toList.flatMap fun p => cellsOf (evT C st.t p.2))))
    else none := by
  unfold doOp opW
  simp only [kindOf, memOp, Option.getD_some, ev_evT, keepRows_S, frost_S]
  have : st.look.m (64 * d) = Map.get (64 * d) st.m := rfl
  rw [this]
  split
  · cases keepRowsS C st.m (C.ty (C.ty ty).elem).sz (parts.toList.map fun p => evT C st.t p.2) <;> rfl
  · rfl
def makeS (ti te : TI) (m : Map Blk) (d : Nat) : PV → PV → Option (PV × Map Blk)
  | .int k n, .int k' n' => if k = k' ∧ n = n' ∧ 0 ≤ n ∧ n * te.bytes ≤ 281474976710656 ∧ (Map.get (64 * d) m).isNone then some (.ref (64 * d) 0 n.toNat n.toNat, [(64 * d, { froz := false, n := n.toNat, e := ti.elem, xs := List.replicate n.toNat te.zero })]) else none
  | _, _ => none
@[simp] theorem makeS_int (ti te : TI) (d : Nat) (k : IntKind) (n : Int) : makeS ti te m d (.int k n) (.int k n) = if 0 ≤ n ∧ n * te.bytes ≤ 281474976710656 ∧ (Map.get (64 * d) m).isNone then some (.ref (64 * d) 0 n.toNat n.toNat, [(64 * d, { froz := false, n := n.toNat, e := ti.elem, xs := List.replicate n.toNat te.zero })]) else none := by simp [makeS]
def St.wrm (st : St) (d : Nat) (w : PV × Map Blk) : St := ⟨Map.put d w.1 st.t, st.b, Map.puts w.2 st.m⟩
@[simp] theorem wrm_mk (d : Nat) (w : PV × Map Blk) : St.wrm ⟨t, b, m⟩ d w = ⟨Map.put d w.1 t, b, Map.puts w.2 m⟩ := rfl
theorem doOp_makeSlice (ty : TypeId) (l c : Operand) : doOp C call f (some d) (.makeSlice ty l c) st = (makeS (C.ty ty) (C.ty (C.ty ty).elem) st.m d (evT C st.t l) (evT C st.t c)).map (st.wrm d) := by
  unfold doOp opW
  simp only [kindOf, memOp, Option.getD_some, ev_evT]
  have : st.look.m (64 * d) = Map.get (64 * d) st.m := rfl
  rw [this]
  cases evT C st.t l with
  | int k n => cases evT C st.t c with
    | int k' n' => simp only [makeS]; split <;> rfl
    | _ => rfl
  | _ => rfl
def elemsS (C : Cfg) (m : Map Blk) (e : TypeId) : PV → Option (List (List PV))
  | .arr s xs => if s = (C.ty e).sz then some xs else none
  | .nil => some []
  | .ref k off len ver => (Map.get k m).bind fun B => if B.e = e ∧ ver = B.n ∧ off + len ≤ B.n then some ((B.xs.drop off).take len) else none
  | _ => none
@[simp] theorem elemsS_arr (e : TypeId) (s : Nat) (xs : List (List PV)) : elemsS C m e (.arr s xs) = if s = (C.ty e).sz then some xs else none := rfl
@[simp] theorem elemsS_nil (e : TypeId) : elemsS C m e .nil = some [] := rfl
@[simp] theorem elemsS_ref (e : TypeId) (k off len ver : Nat) : elemsS C m e (.ref k off len ver) = (Map.get k m).bind fun B => if B.e = e ∧ ver = B.n ∧ off + len ≤ B.n then some ((B.xs.drop off).take len) else none := rfl
def appS (C : Cfg) (m : Map Blk) (d : Nat) (e : TypeId) (ys : List (List PV)) : PV → Option (PV × Map Blk)
  | .ref k off len ver => (Map.get k m).bind fun B => if B.froz = false ∧ B.e = e ∧ ver = B.n ∧ off + len = B.n ∧ (B.n + ys.length) * (C.ty e).bytes ≤ 140737488355328 then
      some (.ref k off (len + ys.length) (B.n + ys.length), [(k, { froz := false, n := B.n + ys.length, e, xs := B.xs ++ ys })]) else none
  | .nil => match Map.get (64 * d) m, ys with
    | _, [] => some (.nil, [])
    | none, y :: ys => if (ys.length + 1) * (C.ty e).bytes ≤ 140737488355328 then some (.ref (64 * d) 0 (ys.length + 1) (ys.length + 1), [(64 * d, { froz := false, n := ys.length + 1, e, xs := y :: ys })]) else none
    | _, _ => none
  | _ => none
@[simp] theorem appS_ref (d : Nat) (e : TypeId) (ys : List (List PV)) (k off len ver : Nat) : appS C m d e ys (.ref k off len ver) = (Map.get k m).bind fun B => if B.froz = false ∧ B.e = e ∧ ver = B.n ∧ off + len = B.n ∧ (B.n + ys.length) * (C.ty e).bytes ≤ 140737488355328 then
      some (.ref k off (len + ys.length) (B.n + ys.length), [(k, { froz := false, n := B.n + ys.length, e, xs := B.xs ++ ys })]) else none := rfl
@[simp] theorem appS_nil (d : Nat) (e : TypeId) (y : List PV) (ys : List (List PV)) : appS C m d e (y :: ys) .nil = if (Map.get (64 * d) m).isNone ∧ (ys.length + 1) * (C.ty e).bytes ≤ 140737488355328 then some (.ref (64 * d) 0 (ys.length + 1) (ys.length + 1), [(64 * d, { froz := false, n := ys.length + 1, e, xs := y :: ys })]) else none := by
  unfold appS
  cases Map.get (64 * d) m <;> simp
@[simp] theorem appS_nil_nil (d : Nat) (e : TypeId) : appS C m d e [] .nil = some (.nil, []) := by
  unfold appS
  cases Map.get (64 * d) m <;> simp
theorem elems_S (e : TypeId) (v : PV) : elems C st.look e v = elemsS C st.m e v := by cases v <;> rfl
theorem appendTo_S (d : Nat) (e : TypeId) (ys : List (List PV)) (v : PV) : appendTo C st.look d e ys v = (appS C st.m d e ys v).map fun w => { v := w.1, wm := w.2 } := by
  have : st.look.m = fun k => Map.get k st.m := rfl
  cases v with
  | ref k off len ver =>
    simp only [appendTo, appS, this]
    cases Map.get k st.m with
    | none => rfl
    | some B => simp only [Option.bind_some]; split <;> rfl
  | nil =>
    simp only [appendTo, appS, this]
    cases Map.get (64 * d) st.m <;> cases ys <;> first | rfl | (simp only; split <;> rfl)
  | _ => rfl
theorem doOp_append (s x : Operand) (ty : TypeId) (ts : Array TypeId) (h : ts[0]? = some ty := by rfl) : doOp C call f (some d) (.call { callee := .builtin .append, args := #[s, x], argTypes := ts }) st =
    ((elemsS C st.m (C.ty ty).elem (evT C st.t x)).bind fun ys => appS C st.m d (C.ty ty).elem ys (evT C st.t s)).map (st.wrm d) := by
  obtain ⟨l⟩ := ts
  cases l with
  | nil => simp at h
  | cons t0 l =>
    obtain rfl : t0 = ty := by simpa using h
    unfold doOp opW
    simp only [kindOf, memOp, Option.getD_some, ev_evT, elems_S, appendTo_S]
    cases elemsS C st.m (C.ty t0).elem (evT C st.t x) with
    | none => rfl
    | some ys => simp only [Option.bind_some]; cases appS C st.m d (C.ty t0).elem ys (evT C st.t s) <;> rfl
end
/-! Calls. -/
section
variable (C : Cfg) (t : Map PV) (b : Map (List PV)) (m : Map Blk) (call : Caller) (f : FuncId) (d : Tmp) (st : St)
def calleeV : PV → Option (FuncId × List PV)
  | .fn g cap => some (g, cap)
  | _ => none
@[simp] theorem calleeV_fn (g : FuncId) (cap : List PV) : calleeV (.fn g cap) = some (g, cap) := rfl
/-- A call of g with these values. -/
def callK (C : Cfg) (call : Caller) (dir : Bool) (f : FuncId) (d : Tmp) (st : St) (g : FuncId) (vs : List PV) : Option St :=
  if dir || (C.io g).isEmpty then (hand C st.look (C.io g) 0 vs).bind fun h => (call g h.vs h.b h.m).bind fun r => (callDo C st.look f d (g, vs) h r).map (st.after (some d)) else none
@[simp] theorem direct_func (g : FuncId) : direct (.func g) = true := rfl
@[simp] theorem direct_tmp (t : Tmp) : direct (.tmp t) = false := rfl
theorem doOp_call (g : Operand) (xs : Array Operand) (ts : Array TypeId) : doOp C call f (some d) (.call { callee := .value g, args := xs, argTypes := ts }) st = (calleeV (evT C st.t g)).bind fun q => callK C call (direct g) f d st q.1 (xs.toList.map (evT C st.t) ++ q.2) := by
  unfold doOp opW
  simp only [kindOf, callOp, callee, Option.getD_some, ev_look]
  cases evT C st.t g with
  | fn g' cap =>
    simp only [calleeV, Option.bind_some, callK]
    split
    · simp only [Option.bind_some]
      cases hand C st.look (C.io g') 0 (xs.toList.map (evT C st.t) ++ cap) with
      | none => rfl
      | some h =>
        simp only [Option.bind_some]
        cases call g' h.vs h.b h.m <;> rfl
    · rfl
  | _ => rfl
def lendCS (C : Cfg) (b : Map (List PV)) (m : Map Blk) : PV → Option PV
  | .ptr k off => (Map.get k b).bind fun cs => (keepLS C m cs).map fun cs => .cptr cs off
  | .eptr k i off ver => ((Map.get k m).bind fun B => if ver = B.n then B.xs[i]? else none).map fun cs => .cptr cs off
  | .cptr cs off => some (.cptr cs off)
  | .fn f cap => (lendCapS C b m cap).map (.fn f)
  | v => keepCS C m v
where lendCapS (C : Cfg) (b : Map (List PV)) (m : Map Blk) : List PV → Option (List PV)
  | [] => some []
  | .ptr k off :: r => (Map.get k b).bind fun cs => (keepLS C m cs).bind fun cs => (lendCapS C b m r).bind fun r => some (.cptr cs off :: r)
  | .cptr cs off :: r => (lendCapS C b m r).bind fun r => some (.cptr cs off :: r)
  | _ :: _ => none
@[simp] theorem lendCS_ptr (k off : Nat) : lendCS C b m (.ptr k off) = (Map.get k b).bind fun cs => (keepLS C m cs).map fun cs => .cptr cs off := rfl
@[simp] theorem lendCS_eptr (k i off ver : Nat) : lendCS C b m (.eptr k i off ver) = ((Map.get k m).bind fun B => if ver = B.n then B.xs[i]? else none).map fun cs => .cptr cs off := rfl
@[simp] theorem lendCS_cptr (cs : List PV) (off : Nat) : lendCS C b m (.cptr cs off) = some (.cptr cs off) := rfl
@[simp] theorem lendCS_fn (g : FuncId) (cap : List PV) : lendCS C b m (.fn g cap) = (lendCS.lendCapS C b m cap).map (.fn g) := rfl
@[simp] theorem lendCS_ref (k off len v : Nat) : lendCS C b m (.ref k off len v) = keepCS C m (.ref k off len v) := rfl
@[simp] theorem lendCS_nil : lendCS C b m .nil = some .nil := rfl
@[simp] theorem lendCS_int (k : IntKind) (n : Int) : lendCS C b m (.int k n) = some (.int k n) := rfl
@[simp] theorem lendCS_bool (x : Bool) : lendCS C b m (.bool x) = some (.bool x) := rfl
@[simp] theorem lendCS_str (s : ByteArray) : lendCS C b m (.str s) = some (.str s) := rfl
@[simp] theorem lendCS_arr (s : Nat) (xs : List (List PV)) : lendCS C b m (.arr s xs) = some (.arr s xs) := rfl
@[simp] theorem lendCap_nil : lendCS.lendCapS C b m [] = some [] := rfl
@[simp] theorem lendCap_ptr (k off : Nat) (r : List PV) : lendCS.lendCapS C b m (.ptr k off :: r) = (Map.get k b).bind fun cs => (keepLS C m cs).bind fun cs => (lendCS.lendCapS C b m r).bind fun r => some (.cptr cs off :: r) := rfl
@[simp] theorem lendCap_cptr (cs : List PV) (off : Nat) (r : List PV) : lendCS.lendCapS C b m (.cptr cs off :: r) = (lendCS.lendCapS C b m r).bind fun r => some (.cptr cs off :: r) := rfl
theorem lendCap_S : ∀ (cap : List PV), lendC.lendCap C st.look cap = lendCS.lendCapS C st.b st.m cap
  | [] => rfl
  | c :: r => by
    cases c with
    | ptr k off => simp only [lendC.lendCap, lendCS.lendCapS, lendCap_S r, keepL_S]; rfl
    | cptr cs off => simp only [lendC.lendCap, lendCS.lendCapS, lendCap_S r]
    | _ => rfl
theorem lendC_S (v : PV) : lendC C st.look v = lendCS C st.b st.m v := by
  cases v with
  | ptr k off => simp only [lendC, lendCS, keepL_S]; rfl
  | eptr k i off ver => rfl
  | fn g cap => simp only [lendC, lendCS, lendCap_S]
  | _ => rfl
def lendLS (C : Cfg) (b : Map (List PV)) (m : Map Blk) : List PV → Option (List PV)
  | [] => some []
  | c :: cs => (lendCS C b m c).bind fun c => (lendLS C b m cs).bind fun cs => some (c :: cs)
@[simp] theorem lendLS_nil : lendLS C b m [] = some [] := rfl
@[simp] theorem lendLS_cons (c : PV) (cs : List PV) : lendLS C b m (c :: cs) = (lendCS C b m c).bind fun c => (lendLS C b m cs).bind fun cs => some (c :: cs) := rfl
theorem lendL_S : ∀ (cs : List PV), lendL C st.look cs = lendLS C st.b st.m cs
  | [] => rfl
  | c :: cs => by rw [lendL, lendLS, lendC_S, lendL_S cs]
def lendS (C : Cfg) (b : Map (List PV)) (m : Map Blk) : PV → Option PV
  | .agg cs => (lendLS C b m cs).map .agg
  | v => lendCS C b m v
@[simp] theorem lendS_agg (cs : List PV) : lendS C b m (.agg cs) = (lendLS C b m cs).map .agg := rfl
@[simp] theorem lendS_ptr (k off : Nat) : lendS C b m (.ptr k off) = lendCS C b m (.ptr k off) := rfl
@[simp] theorem lendS_eptr (k i off v : Nat) : lendS C b m (.eptr k i off v) = lendCS C b m (.eptr k i off v) := rfl
@[simp] theorem lendS_cptr (cs : List PV) (off : Nat) : lendS C b m (.cptr cs off) = some (.cptr cs off) := rfl
@[simp] theorem lendS_fn (g : FuncId) (cap : List PV) : lendS C b m (.fn g cap) = lendCS C b m (.fn g cap) := rfl
@[simp] theorem lendS_ref (k off len v : Nat) : lendS C b m (.ref k off len v) = keepCS C m (.ref k off len v) := rfl
@[simp] theorem lendS_nil : lendS C b m .nil = some .nil := rfl
@[simp] theorem lendS_int (k : IntKind) (n : Int) : lendS C b m (.int k n) = some (.int k n) := rfl
@[simp] theorem lendS_bool (x : Bool) : lendS C b m (.bool x) = some (.bool x) := rfl
@[simp] theorem lendS_str (s : ByteArray) : lendS C b m (.str s) = some (.str s) := rfl
@[simp] theorem lendS_arr (s : Nat) (xs : List (List PV)) : lendS C b m (.arr s xs) = some (.arr s xs) := rfl
theorem lend_S (v : PV) : lend C st.look v = lendS C st.b st.m v := by
  cases v with
  | agg cs => simp only [lend, lendS, lendL_S]
  | undef => exact lendC_S C st .undef
  | skip => exact lendC_S C st .skip
  | nil => exact lendC_S C st .nil
  | int k n => exact lendC_S C st (.int k n)
  | bool x => exact lendC_S C st (.bool x)
  | str s => exact lendC_S C st (.str s)
  | arr s x => exact lendC_S C st (.arr s x)
  | oarr s x => exact lendC_S C st (.oarr s x)
  | ref k o l v => exact lendC_S C st (.ref k o l v)
  | ptr k o => exact lendC_S C st (.ptr k o)
  | eptr k i o v => exact lendC_S C st (.eptr k i o v)
  | cptr c o => exact lendC_S C st (.cptr c o)
  | optr c => exact lendC_S C st (.optr c)
  | fn g c => exact lendC_S C st (.fn g c)
  | tup v => exact lendC_S C st (.tup v)
def lendAll (C : Cfg) (b : Map (List PV)) (m : Map Blk) : List PV → Option (List PV)
  | [] => some []
  | v :: vs => (lendAll C b m vs).bind fun r => (lendS C b m v).bind fun v => some (v :: r)
@[simp] theorem lendAll_nil : lendAll C b m [] = some [] := rfl
@[simp] theorem lendAll_cons (v : PV) (vs : List PV) : lendAll C b m (v :: vs) = (lendAll C b m vs).bind fun r => (lendS C b m v).bind fun v => some (v :: r) := rfl
theorem hand_none (vs : List PV) : ∀ p, hand C st.look [] p vs = (lendAll C st.b st.m vs).map fun r => { vs := r } := by
  induction vs with
  | nil => intro p; rfl
  | cons v vs ih =>
    intro p
    rw [hand, lendAll, ih]
    cases lendAll C st.b st.m vs with
    | none => rfl
    | some r =>
      have : isHand [] p v = false := rfl
      simp only [Option.map_some, Option.bind_some, this, Bool.false_eq_true, if_false, lend_S]
      cases lendS C st.b st.m v <;> rfl
@[simp] theorem eptrKeys_nil : eptrKeys [] = [] := rfl
@[simp] theorem eptrKeys_cons (v : PV) (vs : List PV) : eptrKeys (v :: vs) = eptrKey v ++ eptrKeys vs := rfl
def lentMs : List PV → List Nat
  | [] => []
  | v :: vs => refKeys (cellsOf v) ++ (eptrKeys (cellsOf v) ++ lentMs vs)
def lentBs : List PV → List Nat
  | [] => []
  | v :: vs => ptrKeys (cellsOf v) ++ lentBs vs
@[simp] theorem lentMs_nil : lentMs [] = [] := rfl
@[simp] theorem lentMs_cons (v : PV) (vs : List PV) : lentMs (v :: vs) = refKeys (cellsOf v) ++ (eptrKeys (cellsOf v) ++ lentMs vs) := rfl
@[simp] theorem lentBs_nil : lentBs [] = [] := rfl
@[simp] theorem lentBs_cons (v : PV) (vs : List PV) : lentBs (v :: vs) = ptrKeys (cellsOf v) ++ lentBs vs := rfl
theorem lentM_none (vs : List PV) : ∀ p, lentM [] p vs = lentMs vs := by
  induction vs with
  | nil => intro p; rfl
  | cons v vs ih => intro p; rw [lentM, lentMs, ih, show isHand [] p v = false from rfl]; simp
theorem lentB_none (vs : List PV) : ∀ p, lentB [] p vs = lentBs vs := by
  induction vs with
  | nil => intro p; rfl
  | cons v vs ih => intro p; rw [lentB, lentBs, ih, show isHand [] p v = false from rfl]; simp
/-- What becomes of a pure call's results. -/
def ret (C : Cfg) (own : Bool) (vs : List PV) (d : Tmp) (st : St) (rs : List PV) : Option St :=
  if plainRes rs then some ⟨Map.put d (takeRes C own (renK [] d) (64 * d) rs).1 st.t, Map.puts (takeRes C own (renK [] d) (64 * d) rs).2.1 st.b, Map.puts (takeRes C own (renK [] d) (64 * d) rs).2.2 st.m⟩
  else if (lentBs vs).isEmpty && (fresh (fun k => Map.get k st.b) (takeRes C own (renK [] d) (64 * d) rs).2.1 && fresh (fun k => Map.get k st.m) (takeRes C own (renK [] d) (64 * d) rs).2.2) then
    some ⟨Map.put d (takeRes C own (renK [] d) (64 * d) rs).1 st.t, Map.puts (takeRes C own (renK [] d) (64 * d) rs).2.1 st.b, Map.puts (frostS st.m (lentMs vs) ++ (takeRes C own (renK [] d) (64 * d) rs).2.2) st.m⟩
  else none
theorem take_plain (own : Bool) (ρ : Nat → Nat) (k : Nat) (v : PV) (h : (cellsOf v).all plainCell = true) : take C own ρ k v = (v, [], []) := by
  have hL : ∀ (cs : List PV) (k : Nat), cs.all plainCell = true → takeL C own ρ k cs = (cs, [], []) := by
    intro cs
    induction cs with
    | nil => intro k _; rfl
    | cons c cs ih =>
      intro k h
      rw [List.all_cons, Bool.and_eq_true] at h
      rw [takeL, ih _ h.2]
      cases c <;> first | rfl | cases h.1
  cases v with
  | agg cs => rw [take, hL cs k h]
  | int _ _ => rfl
  | bool _ => rfl
  | str _ => rfl
  | _ => cases h
theorem takeRes_plain (own : Bool) (ρ : Nat → Nat) (k : Nat) (rs : List PV) (h : plainRes rs = true) : (takeRes C own ρ k rs).2 = ([], []) := by
  have hA : ∀ (rs : List PV) (k : Nat), plainRes rs = true → takeAll C own ρ k rs = (rs, [], []) := by
    intro rs
    induction rs with
    | nil => intro k _; rfl
    | cons v rs ih =>
      intro k h
      unfold plainRes at h ih
      rw [List.all_cons, Bool.and_eq_true] at h
      rw [takeAll, take_plain C own ρ k v h.1, ih _ h.2]
      rfl
  match rs, h with
  | [], _ => rfl
  | [v], h =>
    unfold plainRes at h
    rw [List.all_cons, Bool.and_eq_true] at h
    rw [takeRes, take_plain C own ρ k v h.1]
  | v :: w :: rs, h =>
    rw [takeRes, hA _ k h]
    intro v hv; cases hv
theorem callK_pure (dir : Bool) (g : FuncId) (vs : List PV) (hio : C.io g = []) : callK C call dir f d st g vs = (lendAll C st.b st.m vs).bind fun q => (call g q [] []).bind fun r => ret C (C.own f d) vs d st r.1 := by
  unfold callK
  rw [hio, hand_none, if_pos (by simp)]
  cases lendAll C st.b st.m vs with
  | none => rfl
  | some q =>
    simp only [Option.map_some, Option.bind_some]
    cases call g q [] [] with
    | none => rfl
    | some r =>
      have hw : wrote C g r = ([], []) := by unfold wrote; rw [hio]; rfl
      have hbo : ∀ tm : Map Blk, backOk st.look { vs := q } d [] [] tm = true := by
        intro tm
        simp only [backOk, backB, backM, List.map_nil, List.all_nil, List.nodup_nil, decide_true, Bool.true_and, List.all_eq_true]
        intro p _
        rfl
      simp only [Option.bind_some, callDo, hio, hw, hbo, handOk, lentM_none, lentB_none, List.isEmpty_nil, Bool.and_true, ret, backB, backM, List.map_nil, List.nil_append]
      by_cases hp : plainRes r.1 = true
      · have h2 := takeRes_plain C (C.own f d) (renK [] d) (64 * d) r.1 hp
        simp only [hp, Bool.true_or, h2, fresh, List.all_nil, Bool.and_self, if_true, Option.map_some, List.append_nil]
        rfl
      · simp only [hp, Bool.false_or, Bool.false_eq_true, if_false, frost_S]
        have hb : (fresh st.look.b (takeRes C (C.own f d) (renK [] d) (64 * d) r.1).2.1 && (fresh st.look.m (takeRes C (C.own f d) (renK [] d) (64 * d) r.1).2.2 && (lentBs vs).isEmpty)) = ((lentBs vs).isEmpty && (fresh (fun k => Map.get k st.b) (takeRes C (C.own f d) (renK [] d) (64 * d) r.1).2.1 && fresh (fun k => Map.get k st.m) (takeRes C (C.own f d) (renK [] d) (64 * d) r.1).2.2)) := by
          rw [← Bool.and_assoc, Bool.and_comm]; rfl
        rw [hb]
        split <;> rfl
end
/-! The end of a call. -/
section
variable (C : Cfg) (t : Map PV) (b : Map (List PV)) (m : Map Blk) (st : St)
def resultsS (C : Cfg) (st : St) : List ResultVar → Option (List PV)
  | [] => some []
  | .tmp t :: rs => (resultsS C st rs).bind fun vs => some (tget st.t t :: vs)
  | .cell a t :: rs => (loadS (C.ty t) st.b st.m (tget st.t a)).bind fun v => (resultsS C st rs).bind fun vs => some (v :: vs)
@[simp] theorem resultsS_nil : resultsS C st [] = some [] := rfl
@[simp] theorem resultsS_tmp (a : Tmp) (rs : List ResultVar) : resultsS C st (.tmp a :: rs) = (resultsS C st rs).bind fun vs => some (tget st.t a :: vs) := rfl
@[simp] theorem resultsS_cell (a : Tmp) (ty : TypeId) (rs : List ResultVar) : resultsS C st (.cell a ty :: rs) = (loadS (C.ty ty) st.b st.m (tget st.t a)).bind fun v => (resultsS C st rs).bind fun vs => some (v :: vs) := rfl
theorem results_S : ∀ (rs : List ResultVar), results C st.look rs = resultsS C st rs
  | [] => rfl
  | .tmp t :: rs => by rw [results, resultsS, results_S rs]; rfl
  | .cell a t :: rs => by rw [results, resultsS, results_S rs, loadAt_S]; rfl
def giveCS (C : Cfg) (b : Map (List PV)) (m : Map Blk) (io : Map Blk) : PV → Option PV
  | .ref k off len ver => (Map.get k m).bind fun B => if ver = B.n ∧ off + len ≤ B.n then (if (Map.get k io).isSome then some (.ref k off len ver)
      else if B.froz = false ∧ off = 0 ∧ len = B.n then some (.oarr B.e B.xs) else some (.arr (C.ty B.e).sz ((B.xs.drop off).take len))) else none
  | .ptr k 0 => (Map.get k b).bind fun cs => (keepLS C m cs).map .optr
  | v => keepCS C m v
@[simp] theorem giveCS_ref (io : Map Blk) (k off len ver : Nat) : giveCS C b m io (.ref k off len ver) = (Map.get k m).bind fun B => if ver = B.n ∧ off + len ≤ B.n then (if (Map.get k io).isSome then some (.ref k off len ver)
      else if B.froz = false ∧ off = 0 ∧ len = B.n then some (.oarr B.e B.xs) else some (.arr (C.ty B.e).sz ((B.xs.drop off).take len))) else none := rfl
@[simp] theorem giveCS_ptr (io : Map Blk) (k : Nat) : giveCS C b m io (.ptr k 0) = (Map.get k b).bind fun cs => (keepLS C m cs).map .optr := rfl
@[simp] theorem giveCS_nil (io : Map Blk) : giveCS C b m io .nil = some .nil := rfl
@[simp] theorem giveCS_int (io : Map Blk) (k : IntKind) (n : Int) : giveCS C b m io (.int k n) = some (.int k n) := rfl
@[simp] theorem giveCS_bool (io : Map Blk) (x : Bool) : giveCS C b m io (.bool x) = some (.bool x) := rfl
@[simp] theorem giveCS_str (io : Map Blk) (s : ByteArray) : giveCS C b m io (.str s) = some (.str s) := rfl
@[simp] theorem giveCS_arr (io : Map Blk) (s : Nat) (xs : List (List PV)) : giveCS C b m io (.arr s xs) = some (.arr s xs) := rfl
theorem giveC_S (io : Map Blk) (v : PV) : giveC C st.look io v = giveCS C st.b st.m io v := by
  cases v with
  | ptr k off => cases off with
    | zero => simp only [giveC, giveCS, keepL_S]; rfl
    | succ n => rfl
  | fn g cap => cases cap <;> rfl
  | _ => rfl
def giveLS (C : Cfg) (b : Map (List PV)) (m : Map Blk) (io : Map Blk) : List PV → Option (List PV)
  | [] => some []
  | c :: cs => (giveCS C b m io c).bind fun c => (giveLS C b m io cs).bind fun cs => some (c :: cs)
@[simp] theorem giveLS_nil (io : Map Blk) : giveLS C b m io [] = some [] := rfl
@[simp] theorem giveLS_cons (io : Map Blk) (c : PV) (cs : List PV) : giveLS C b m io (c :: cs) = (giveCS C b m io c).bind fun c => (giveLS C b m io cs).bind fun cs => some (c :: cs) := rfl
theorem giveL_S (io : Map Blk) : ∀ (cs : List PV), giveL C st.look io cs = giveLS C st.b st.m io cs
  | [] => rfl
  | c :: cs => by rw [giveL, giveLS, giveC_S, giveL_S io cs]
def giveS (C : Cfg) (b : Map (List PV)) (m : Map Blk) (io : Map Blk) (v : PV) : Option PV := match v with
  | .agg cs => (giveLS C b m io cs).map .agg
  | v => giveCS C b m io v
@[simp] theorem giveS_agg (io : Map Blk) (cs : List PV) : giveS C b m io (.agg cs) = (giveLS C b m io cs).map .agg := rfl
@[simp] theorem giveS_ref (io : Map Blk) (k off len v : Nat) : giveS C b m io (.ref k off len v) = giveCS C b m io (.ref k off len v) := rfl
@[simp] theorem giveS_ptr (io : Map Blk) (k off : Nat) : giveS C b m io (.ptr k off) = giveCS C b m io (.ptr k off) := rfl
@[simp] theorem giveS_nil (io : Map Blk) : giveS C b m io .nil = some .nil := rfl
@[simp] theorem giveS_int (io : Map Blk) (k : IntKind) (n : Int) : giveS C b m io (.int k n) = some (.int k n) := rfl
@[simp] theorem giveS_bool (io : Map Blk) (x : Bool) : giveS C b m io (.bool x) = some (.bool x) := rfl
@[simp] theorem giveS_str (io : Map Blk) (s : ByteArray) : giveS C b m io (.str s) = some (.str s) := rfl
@[simp] theorem giveS_arr (io : Map Blk) (s : Nat) (xs : List (List PV)) : giveS C b m io (.arr s xs) = some (.arr s xs) := rfl
def giveAllS (C : Cfg) (b : Map (List PV)) (m : Map Blk) (io : Map Blk) : List PV → Option (List PV)
  | [] => some []
  | v :: vs => (giveS C b m io v).bind fun v => (giveAllS C b m io vs).bind fun vs => some (v :: vs)
@[simp] theorem giveAllS_nil (io : Map Blk) : giveAllS C b m io [] = some [] := rfl
@[simp] theorem giveAllS_cons (io : Map Blk) (v : PV) (vs : List PV) : giveAllS C b m io (v :: vs) = (giveS C b m io v).bind fun v => (giveAllS C b m io vs).bind fun vs => some (v :: vs) := rfl
theorem giveAll_S (io : Map Blk) : ∀ (vs : List PV), giveAll C st.look io vs = giveAllS C st.b st.m io vs
  | [] => rfl
  | v :: vs => by
    rw [giveAll, giveAllS, giveAll_S io vs]
    have : give C st.look io v = giveS C st.b st.m io v := by
      cases v with
      | agg cs => simp only [give, giveS, giveL_S]
      | undef => exact giveC_S C st io .undef
      | skip => exact giveC_S C st io .skip
      | nil => exact giveC_S C st io .nil
      | int k n => exact giveC_S C st io (.int k n)
      | bool x => exact giveC_S C st io (.bool x)
      | str s => exact giveC_S C st io (.str s)
      | arr s x => exact giveC_S C st io (.arr s x)
      | oarr s x => exact giveC_S C st io (.oarr s x)
      | ref k o l v => exact giveC_S C st io (.ref k o l v)
      | ptr k o => exact giveC_S C st io (.ptr k o)
      | eptr k i o v => exact giveC_S C st io (.eptr k i o v)
      | cptr c o => exact giveC_S C st io (.cptr c o)
      | optr c => exact giveC_S C st io (.optr c)
      | fn g c => exact giveC_S C st io (.fn g c)
      | tup v => exact giveC_S C st io (.tup v)
    rw [this]
def refsInS (b : Map (List PV)) (ks : List Nat) : List Nat := ks.flatMap fun k => refKeys ((Map.get k b).getD [])
@[simp] theorem refsInS_nil (b : Map (List PV)) : refsInS b [] = [] := rfl
@[simp] theorem refsInS_cons (b : Map (List PV)) (k : Nat) (ks : List Nat) : refsInS b (k :: ks) = refKeys ((Map.get k b).getD []) ++ refsInS b ks := rfl
/-- The end of a call that writes nothing of its caller's. -/
def endS (C : Cfg) (rv : List ResultVar) (r : Ex × St) : Option (List PV × Map (List PV) × Map Blk) :=
  match r.1 with
  | .exit _ => none
  | _ => (resultsS C r.2 rv).bind fun vs => (giveAllS C r.2.b r.2.m [] vs).bind fun rs => if (refKeys (vs.flatMap cellsOf) ++ refsInS r.2.b (ptrKeys (vs.flatMap cellsOf))).Nodup ∧ (ptrKeys (vs.flatMap cellsOf)).Nodup then some (rs, [], []) else none
@[simp] theorem endS_normal (rv : List ResultVar) (st : St) : endS C rv (.normal, st) = (resultsS C st rv).bind fun vs => (giveAllS C st.b st.m [] vs).bind fun rs => if (refKeys (vs.flatMap cellsOf) ++ refsInS st.b (ptrKeys (vs.flatMap cellsOf))).Nodup ∧ (ptrKeys (vs.flatMap cellsOf)).Nodup then some (rs, [], []) else none := rfl
@[simp] theorem endS_ret (rv : List ResultVar) (st : St) : endS C rv (.ret, st) = (resultsS C st rv).bind fun vs => (giveAllS C st.b st.m [] vs).bind fun rs => if (refKeys (vs.flatMap cellsOf) ++ refsInS st.b (ptrKeys (vs.flatMap cellsOf))).Nodup ∧ (ptrKeys (vs.flatMap cellsOf)).Nodup then some (rs, [], []) else none := rfl
theorem finish_none (e : Ex) (rv : List ResultVar) : finish C { t := [], b := [], m := [] } e st rv = endS C rv (e, st) := by
  cases e with
  | exit i => rfl
  | _ =>
    simp only [finish, endS, results_S, giveAll_S, outB, outM, List.map_nil, List.append_nil, Option.bind_some, endOk, List.nodup_nil, decide_true, Bool.true_and]
    refine congrArg _ (funext fun vs => congrArg _ (funext fun rs => ?_))
    have h1 : ((refsIn st.look (ptrKeys (vs.flatMap cellsOf))).all (fun k => (Map.get k ([] : Map Blk)).isNone) && (ptrKeys (vs.flatMap cellsOf)).all (fun k => (Map.get k ([] : Map (List PV))).isNone)) = true := by
      simp only [Map.get, Option.isNone_none, List.all_eq_true, implies_true, Bool.and_eq_true, and_self]
    rw [h1, Bool.and_true]
    simp only [Bool.and_eq_true, decide_eq_true_eq]
    rfl
theorem call_pure {f : FuncId} {fn : Func} {c : Code} (hf : C.P.funcs[f]? = some fn) (hc : fn.body = some c) (hk : C.ok f = true) (args : List PV) :
    call C f args [] [] = (exec C f c (start args [] [])).bind (endS C fn.results.toList) := by
  rw [call_eq C hf hc hk _ _ _ rfl]
  exact congrArg _ (funext fun r => finish_none C r.2 r.1 _)
/-- Code that is run behind other code. -/
noncomputable def thenS (C : Cfg) (f : FuncId) (c : Code) (r : Ex × St) : Option (Ex × St) := match r.1 with
  | .normal => exec C f c r.2
  | _ => some r
@[simp] theorem thenS_normal (f : FuncId) (c : Code) (st : St) : thenS C f c (.normal, st) = exec C f c st := rfl
@[simp] theorem thenS_ret (f : FuncId) (c : Code) (st : St) : thenS C f c (.ret, st) = some (.ret, st) := rfl
@[simp] theorem thenS_exit (f : FuncId) (c : Code) (i : Nat) (st : St) : thenS C f c (.exit i, st) = some (.exit i, st) := rfl
theorem run_seq (f : FuncId) (x y : Code) : exec C f (.seq x y) st = (exec C f x st).bind (thenS C f y) := by
  rw [exec_seq]
  exact congrArg _ (funext fun r => by obtain ⟨e, s⟩ := r; cases e <;> rfl)
theorem run_region (f : FuncId) (id : Nat) (os : Array Oper) : exec C f (.region id os false) st = (opsW C (call C) f os.toList os.toList st).map fun st => (.normal, st) := by
  rw [exec_region]
  simp only [Bool.false_eq_true, if_false]
  cases opsW C (call C) f os.toList os.toList st <;> rfl
theorem run_draw (f : FuncId) (id : Nat) (os : Array Oper) : exec C f (.region id os true) st = (opsW C (call C) f os.toList (arrange os.toList (C.order f id)) st).map fun st => (.normal, st) := by
  rw [exec_region]
  simp only [if_true]
  cases opsW C (call C) f os.toList (arrange os.toList (C.order f id)) st <;> rfl
def condOn {α : Type} (v : PV) (x y : Option α) : Option α := match v with
  | .bool t => if t then x else y
  | _ => none
theorem condOn_congr {α : Type} {v v' : PV} (x y : Option α) (h : v = v') : condOn v x y = condOn v' x y := by rw [h]
@[simp] theorem condOn_bool {α : Type} (c : Bool) (x y : Option α) : condOn (.bool c) x y = if c then x else y := rfl
theorem run_cond (f : FuncId) (c : Operand) (x y : Code) : exec C f (.cond c x y) st = condOn (evT C st.t c) (exec C f x st) (exec C f y st) := by
  rw [exec_cond, ev_evT]; rfl
@[simp] theorem leave_normal (i : Nat) : Ex.leave i .normal = .normal := rfl
@[simp] theorem leave_ret (i : Nat) : Ex.leave i .ret = .ret := rfl
@[simp] theorem leave_exit (i j : Nat) : Ex.leave i (.exit j) = if j = i then .normal else .exit j := rfl
theorem run_block (f : FuncId) (id : Nat) (x : Code) : exec C f (.block id x) st = (exec C f x st).map fun r => (r.1.leave id, r.2) := by
  rw [exec_block]; cases exec C f x st <;> rfl
theorem run_loop (f : FuncId) (x : Code) : exec C f (.loop x) st = (exec C f x (tidy (C.keep f) (C.live f (headOf x)) st)).bind (thenS C f (.loop x)) := by
  rw [exec_loop]
  exact congrArg _ (funext fun r => by obtain ⟨e, s⟩ := r; cases e <;> rfl)
theorem ite_bind {α β : Type} (c : Prop) [Decidable c] (x y : Option α) (g : α → Option β) : (if c then x else y).bind g = if c then x.bind g else y.bind g := by split <;> rfl
theorem ite_map {α β : Type} (c : Prop) [Decidable c] (x y : Option α) (g : α → β) : (if c then x else y).map g = if c then x.map g else y.map g := by split <;> rfl
@[simp] theorem cut_def (cs : List PV) (off n : Nat) : cut cs off n = if off + n ≤ cs.length then some ((cs.drop off).take n) else none := rfl
@[simp] theorem put_def (cs : List PV) (off : Nat) (new : List PV) : Go.AI.put cs off new = if off + new.length ≤ cs.length then some (cs.take off ++ new ++ cs.drop (off + new.length)) else none := rfl
@[simp] theorem mk_agg (cs : List PV) : mk true cs = some (.agg cs) := rfl
@[simp] theorem mk_one (c : PV) : mk false [c] = some c := rfl
@[simp] theorem plainRes_nil : plainRes [] = true := rfl
@[simp] theorem plainRes_cons (v : PV) (vs : List PV) : plainRes (v :: vs) = ((cellsOf v).all plainCell && plainRes vs) := rfl
@[simp] theorem plainCell_int (k : IntKind) (n : Int) : plainCell (.int k n) = true := rfl
@[simp] theorem plainCell_bool (x : Bool) : plainCell (.bool x) = true := rfl
@[simp] theorem plainCell_str (s : ByteArray) : plainCell (.str s) = true := rfl
@[simp] theorem plainCell_arr (s : Nat) (x : List (List PV)) : plainCell (.arr s x) = false := rfl
@[simp] theorem plainCell_oarr (s : Nat) (x : List (List PV)) : plainCell (.oarr s x) = false := rfl
@[simp] theorem plainCell_nil : plainCell .nil = false := rfl
@[simp] theorem plainCell_optr (c : List PV) : plainCell (.optr c) = false := rfl
@[simp] theorem plainCell_ref (k o l v : Nat) : plainCell (.ref k o l v) = false := rfl
@[simp] theorem takeRes_one (own : Bool) (ρ : Nat → Nat) (k : Nat) (v : PV) : takeRes C own ρ k [v] = take C own ρ k v := rfl
@[simp] theorem takeRes_two (own : Bool) (ρ : Nat → Nat) (k : Nat) (v w : PV) (rs : List PV) : takeRes C own ρ k (v :: w :: rs) = (.tup (takeAll C own ρ k (v :: w :: rs)).1, (takeAll C own ρ k (v :: w :: rs)).2) := rfl
@[simp] theorem takeAll_nil (own : Bool) (ρ : Nat → Nat) (k : Nat) : takeAll C own ρ k [] = ([], [], []) := rfl
@[simp] theorem takeAll_cons (own : Bool) (ρ : Nat → Nat) (k : Nat) (v : PV) (ws : List PV) : takeAll C own ρ k (v :: ws) = ((take C own ρ k v).1 :: (takeAll C own ρ (k + (cellsOf v).length) ws).1, (take C own ρ k v).2.1 ++ (takeAll C own ρ (k + (cellsOf v).length) ws).2.1, (take C own ρ k v).2.2 ++ (takeAll C own ρ (k + (cellsOf v).length) ws).2.2) := rfl
@[simp] theorem take_agg (own : Bool) (ρ : Nat → Nat) (k : Nat) (cs : List PV) : take C own ρ k (.agg cs) = (.agg (takeL C own ρ k cs).1, (takeL C own ρ k cs).2) := rfl
@[simp] theorem takeL_nil (own : Bool) (ρ : Nat → Nat) (k : Nat) : takeL C own ρ k [] = ([], [], []) := rfl
@[simp] theorem takeL_cons (own : Bool) (ρ : Nat → Nat) (k : Nat) (c : PV) (cs : List PV) : takeL C own ρ k (c :: cs) = ((takeC C own ρ k c).1 :: (takeL C own ρ (k + 1) cs).1, (takeC C own ρ k c).2.1 ++ (takeL C own ρ (k + 1) cs).2.1, (takeC C own ρ k c).2.2 ++ (takeL C own ρ (k + 1) cs).2.2) := rfl
@[simp] theorem take_int (own : Bool) (ρ : Nat → Nat) (k : Nat) (kk : IntKind) (n : Int) : take C own ρ k (.int kk n) = (.int kk n, [], []) := rfl
@[simp] theorem take_bool (own : Bool) (ρ : Nat → Nat) (k : Nat) (x : Bool) : take C own ρ k (.bool x) = (.bool x, [], []) := rfl
@[simp] theorem take_str (own : Bool) (ρ : Nat → Nat) (k : Nat) (s : ByteArray) : take C own ρ k (.str s) = (.str s, [], []) := rfl
@[simp] theorem take_arr (own : Bool) (ρ : Nat → Nat) (k : Nat) (s : Nat) (xs : List (List PV)) : take C own ρ k (.arr s xs) = (.arr s xs, [], []) := rfl
@[simp] theorem take_nil (own : Bool) (ρ : Nat → Nat) (k : Nat) : take C own ρ k .nil = (.nil, [], []) := rfl
@[simp] theorem take_oarr_t (ρ : Nat → Nat) (k : Nat) (s : Nat) (xs : List (List PV)) : take C true ρ k (.oarr s xs) = (.ref k 0 xs.length xs.length, [], [(k, { froz := false, n := xs.length, e := s, xs })]) := rfl
@[simp] theorem take_oarr_f (ρ : Nat → Nat) (k : Nat) (s : Nat) (xs : List (List PV)) : take C false ρ k (.oarr s xs) = (.arr (C.ty s).sz xs, [], []) := rfl
@[simp] theorem take_optr (own : Bool) (ρ : Nat → Nat) (k : Nat) (cs : List PV) : take C own ρ k (.optr cs) = (.ptr k 0, [(k, cs)], []) := rfl
@[simp] theorem takeC_int (own : Bool) (ρ : Nat → Nat) (k : Nat) (kk : IntKind) (n : Int) : takeC C own ρ k (.int kk n) = (.int kk n, [], []) := rfl
@[simp] theorem takeC_bool (own : Bool) (ρ : Nat → Nat) (k : Nat) (x : Bool) : takeC C own ρ k (.bool x) = (.bool x, [], []) := rfl
@[simp] theorem takeC_str (own : Bool) (ρ : Nat → Nat) (k : Nat) (s : ByteArray) : takeC C own ρ k (.str s) = (.str s, [], []) := rfl
@[simp] theorem takeC_arr (own : Bool) (ρ : Nat → Nat) (k : Nat) (s : Nat) (xs : List (List PV)) : takeC C own ρ k (.arr s xs) = (.arr s xs, [], []) := rfl
@[simp] theorem takeC_nil (own : Bool) (ρ : Nat → Nat) (k : Nat) : takeC C own ρ k .nil = (.nil, [], []) := rfl
@[simp] theorem takeC_oarr_t (ρ : Nat → Nat) (k : Nat) (s : Nat) (xs : List (List PV)) : takeC C true ρ k (.oarr s xs) = (.ref k 0 xs.length xs.length, [], [(k, { froz := false, n := xs.length, e := s, xs })]) := rfl
@[simp] theorem takeC_oarr_f (ρ : Nat → Nat) (k : Nat) (s : Nat) (xs : List (List PV)) : takeC C false ρ k (.oarr s xs) = (.arr (C.ty s).sz xs, [], []) := rfl
@[simp] theorem fresh_nil {α : Type} (g : Nat → Option α) : fresh g [] = true := rfl
@[simp] theorem fresh_cons {α : Type} (g : Nat → Option α) (p : Nat × α) (w : Map α) : fresh g (p :: w) = ((g p.1).isNone && fresh g w) := rfl
end
end Go.AI
/- Loops of the interpreter. -/
namespace Go.AI
open Go
/-- A loop by its states at the head: from each it goes on to another one (by a measure), or ends. -/
theorem loop_by (C : Cfg) (f : FuncId) {body : Code} {st0 : St} {α : Type} (J : α → St) (post : α → Ex × St) (μ : α → Nat) (a0 : α) (h0 : tidy (C.keep f) (C.live f (headOf body)) st0 = J a0)
    (step : ∀ a, (∃ s a', exec C f body (J a) = some (.normal, s) ∧ tidy (C.keep f) (C.live f (headOf body)) s = J a' ∧ μ a' < μ a ∧ post a' = post a) ∨ (exec C f body (J a) = some (post a) ∧ (post a).1.isNormal = false)) :
    exec C f (.loop body) st0 = some (post a0) := by
  generalize hn : μ a0 = n
  induction n using Nat.strongRecOn generalizing a0 st0 with
  | _ n ih =>
    rw [exec_loop, h0]
    rcases step a0 with ⟨s, a', h1, h2, h3, h4⟩ | ⟨h1, h2⟩
    · rw [h1]
      show exec C f (.loop body) s = _
      rw [ih (μ a') (by omega) a' h2 rfl, h4]
    · rw [h1]
      simp only [Option.bind_some, h2, Bool.false_eq_true, if_false]
/-- A loop of n rounds. -/
theorem loop_up (C : Cfg) (f : FuncId) {body : Code} {st0 : St} (J : Nat → St) (n : Nat) (r : Ex × St) (h0 : tidy (C.keep f) (C.live f (headOf body)) st0 = J 0)
    (step : ∀ i, i < n → ∃ s, exec C f body (J i) = some (.normal, s) ∧ tidy (C.keep f) (C.live f (headOf body)) s = J (i + 1)) (last : exec C f body (J n) = some r) (hr : r.1.isNormal = false) :
    exec C f (.loop body) st0 = some r := by
  have key : ∀ d i st, i + d = n → tidy (C.keep f) (C.live f (headOf body)) st = J i → exec C f (.loop body) st = some r := by
    intro d
    induction d with
    | zero =>
      intro i st hi h
      obtain rfl : i = n := by omega
      rw [exec_loop, h, last]
      simp only [Option.bind_some, hr, Bool.false_eq_true, if_false]
    | succ d ih =>
      intro i st hi h
      obtain ⟨s, h1, h2⟩ := step i (by omega)
      rw [exec_loop, h, h1]
      exact ih (i + 1) s (by omega) h2
  exact key n 0 st0 (by omega) h0
/-- A loop, up to its head after n rounds. -/
theorem loop_to (C : Cfg) (f : FuncId) {body : Code} {st0 : St} (J : Nat → St) (n : Nat) (h0 : tidy (C.keep f) (C.live f (headOf body)) st0 = J 0)
    (step : ∀ i, i < n → ∃ s, exec C f body (J i) = some (.normal, s) ∧ tidy (C.keep f) (C.live f (headOf body)) s = J (i + 1)) :
    exec C f (.loop body) st0 = (exec C f body (J n)).bind (thenS C f (.loop body)) := by
  have key : ∀ d i st, i + d = n → tidy (C.keep f) (C.live f (headOf body)) st = J i → exec C f (.loop body) st = (exec C f body (J n)).bind (thenS C f (.loop body)) := by
    intro d
    induction d with
    | zero =>
      intro i st hi h
      obtain rfl : i = n := by omega
      rw [run_loop, h]
    | succ d ih =>
      intro i st hi h
      obtain ⟨s, h1, h2⟩ := step i (by omega)
      rw [run_loop, h, h1]
      exact ih (i + 1) s (by omega) h2
  exact key n 0 st0 (by omega) h0
end Go.AI
/- Sorting and compacting, told. -/
namespace Go.AI
open Go
def intsOf : List (List PV) → Option (List Int)
  | [] => some []
  | [.int .i64 n] :: r => (intsOf r).bind fun l => some (n :: l)
  | _ => none
def intRow (l : List Int) : List (List PV) := l.map fun x => [.int .i64 x]
theorem intsOf_row : ∀ l : List Int, intsOf (intRow l) = some l
  | [] => rfl
  | x :: l => by
    show (intsOf (intRow l)).bind _ = _
    rw [intsOf_row l]; rfl
theorem intsOf_eq : ∀ {xs : List (List PV)} {l : List Int}, intsOf xs = some l → xs = intRow l
  | [], l, h => by cases h; rfl
  | [.int .i64 n] :: r, l, h => by
    obtain ⟨l', h1, h2⟩ := Option.bind_eq_some_iff.1 (show (intsOf r).bind _ = some l from h)
    cases h2
    rw [intsOf_eq h1]; rfl
def sorted (l : List Int) : List Int := l.mergeSort fun x y => decide (x ≤ y)
def sortB (sz n v : Nat) (B : Blk) : Option (List PV × Map (List PV) × Map Blk) :=
  if sz = 1 ∧ B.froz = false ∧ v = B.n ∧ n = B.n ∧ B.n < 4611686018427387904 then (intsOf B.xs).bind fun l => some ([], [], [(0, { B with xs := intRow (sorted l) })]) else none
def compactB (sz n v : Nat) (B : Blk) : Option (List PV × Map (List PV) × Map Blk) :=
  if sz = 1 ∧ B.froz = false ∧ v = B.n ∧ n = B.n then (intsOf B.xs).bind fun l => some ([.ref 0 0 (Lib.compact l).length B.n], [], [(0, { B with xs := intRow (Lib.compact l ++ List.replicate (l.length - (Lib.compact l).length) 0) })]) else none
/-- The first round for which p holds, or the last. -/
def stopAt (p : Nat → Bool) : Nat → Nat → Nat
  | i, 0 => i
  | i, d + 1 => if p i then i else stopAt p (i + 1) d
theorem stopAt_le (p : Nat → Bool) : ∀ d i, i ≤ stopAt p i d ∧ stopAt p i d ≤ i + d
  | 0, i => by simp [stopAt]
  | d + 1, i => by
    simp only [stopAt]
    split
    · omega
    · have := stopAt_le p d (i + 1); omega
theorem stopAt_hit (p : Nat → Bool) : ∀ d i, stopAt p i d < i + d → p (stopAt p i d) = true
  | 0, i, h => by simp only [stopAt] at h; omega
  | d + 1, i, h => by
    simp only [stopAt] at h ⊢
    split
    · assumption
    · rename_i hp
      rw [if_neg hp] at h
      exact stopAt_hit p d (i + 1) (by omega)
theorem stopAt_before (p : Nat → Bool) : ∀ d i j, i ≤ j → j < stopAt p i d → p j = false
  | 0, i, j, h, h' => by simp only [stopAt] at h'; omega
  | d + 1, i, j, h, h' => by
    simp only [stopAt] at h'
    split at h'
    · omega
    · rename_i hp
      by_cases e : j = i
      · subst e; simpa using hp
      · exact stopAt_before p d (i + 1) j (by omega) h'
def stop (p : Nat → Bool) (n : Nat) : Nat := stopAt p 0 n
theorem stop_le (p : Nat → Bool) (n : Nat) : stop p n ≤ n := by have := stopAt_le p n 0; unfold stop; omega
theorem stop_hit {p : Nat → Bool} {n : Nat} (h : stop p n < n) : p (stop p n) = true := stopAt_hit p n 0 (by unfold stop at h; omega)
theorem stop_before {p : Nat → Bool} {n j : Nat} (h : j < stop p n) : p j = false := stopAt_before p n 0 j (Nat.zero_le _) h
/-- A loop, up to its head in the first round for which p holds, or the last. -/
theorem loop_stop (C : Cfg) (f : FuncId) {body : Code} {st0 : St} (J : Nat → St) (n : Nat) (p : Nat → Bool) (h0 : tidy (C.keep f) (C.live f (headOf body)) st0 = J 0)
    (step : ∀ i, i < n → p i = false → ∃ s, exec C f body (J i) = some (.normal, s) ∧ tidy (C.keep f) (C.live f (headOf body)) s = J (i + 1)) :
    exec C f (.loop body) st0 = (exec C f body (J (stop p n))).bind (thenS C f (.loop body)) := by
  have key : ∀ d i st, i + d = n → tidy (C.keep f) (C.live f (headOf body)) st = J i → exec C f (.loop body) st = (exec C f body (J (stopAt p i d))).bind (thenS C f (.loop body)) := by
    intro d
    induction d with
    | zero =>
      intro i st hi h
      rw [run_loop, h]
      rfl
    | succ d ih =>
      intro i st hi h
      simp only [stopAt]
      cases hp : p i with
      | true => rw [run_loop, h]; rfl
      | false =>
        obtain ⟨s, h1, h2⟩ := step i (by omega) hp
        rw [run_loop, h, h1]
        exact ih (i + 1) s (by omega) h2
  exact key n 0 st0 (by omega) h0
/-- A call that is handed one row, and gives none. -/
theorem callK_one {C : Cfg} {call : Caller} {f : FuncId} {d : Tmp} {st : St} {g : FuncId} {k n : Nat} {B B' : Blk} (hio : C.io g = [0]) (hm : Map.get k st.m = some B) (hf : B.froz = false) (hn : n = B.n) (hr : call g [.ref 0 0 n n] [] [(0, B)] = some ([], [], [(0, B')])) :
    callK C call true f d st g [.ref k 0 n n] = some ⟨Map.put d (.tup []) st.t, st.b, Map.put k B' st.m⟩ := by
  have hh : hand C st.look (C.io g) 0 [.ref k 0 n n] = some { vs := [.ref 0 0 n n], m := [(0, B)], km := [(0, k)] } := by
    rw [hio]
    have h1 : isHand [0] 0 (.ref k 0 n n) = true := rfl
    simp only [hand, Option.bind_some, h1, if_true, handV, handC, Nat.mul_zero]
    show ((Map.get k st.m).bind _).bind _ = _
    rw [hm, Option.bind_some, if_pos ⟨hf, hn, hn⟩]
    rfl
  have hcd : callDo C st.look f d (g, [.ref k 0 n n]) { vs := [.ref 0 0 n n], m := [(0, B)], km := [(0, k)] } ([], [], [(0, B')]) = some { v := .tup [], wm := [(k, B')] } := by
    have hw : wrote C g ([], [], [(0, B')]) = ([], [(0, B')]) := by unfold wrote; rw [hio]; rfl
    have hl : lentM [0] 0 [.ref k 0 n n] = [] := rfl
    have hlb : lentB [0] 0 [.ref k 0 n n] = [] := rfl
    simp [callDo, hw, hio, takeRes, takeAll, fresh, handOk, hl, hlb, backOk, backM, backB, renK, Map.get, plainRes, frost]
  unfold callK
  rw [if_pos (by simp), hh, Option.bind_some, hr, Option.bind_some, hcd]
  rfl
/-- A call that is handed one row, and gives a part of it. -/
theorem callK_part {C : Cfg} {call : Caller} {f : FuncId} {d : Tmp} {st : St} {g : FuncId} {k n n' v' : Nat} {B B' : Blk} (hio : C.io g = [0]) (hm : Map.get k st.m = some B) (hf : B.froz = false) (hn : n = B.n) (hr : call g [.ref 0 0 n n] [] [(0, B)] = some ([.ref 0 0 n' v'], [], [(0, B')])) :
    callK C call true f d st g [.ref k 0 n n] = some ⟨Map.put d (.ref k 0 n' v') st.t, st.b, Map.put k B' st.m⟩ := by
  have hh : hand C st.look (C.io g) 0 [.ref k 0 n n] = some { vs := [.ref 0 0 n n], m := [(0, B)], km := [(0, k)] } := by
    rw [hio]
    have h1 : isHand [0] 0 (.ref k 0 n n) = true := rfl
    simp only [hand, Option.bind_some, h1, if_true, handV, handC, Nat.mul_zero]
    show ((Map.get k st.m).bind _).bind _ = _
    rw [hm, Option.bind_some, if_pos ⟨hf, hn, hn⟩]
    rfl
  have hcd : callDo C st.look f d (g, [.ref k 0 n n]) { vs := [.ref 0 0 n n], m := [(0, B)], km := [(0, k)] } ([.ref 0 0 n' v'], [], [(0, B')]) = some { v := .ref k 0 n' v', wm := [(k, B')] } := by
    have hw : wrote C g ([.ref 0 0 n' v'], [], [(0, B')]) = ([], [(0, B')]) := by unfold wrote; rw [hio]; rfl
    have hl : lentM [0] 0 [.ref k 0 n n] = [] := rfl
    have hlb : lentB [0] 0 [.ref k 0 n n] = [] := rfl
    simp [callDo, hw, hio, takeRes, AI.take, takeC, fresh, handOk, hl, hlb, backOk, backM, backB, renK, Map.get, plainRes, frost]
  unfold callK
  rw [if_pos (by simp), hh, Option.bind_some, hr, Option.bind_some, hcd]
  rfl
@[simp] theorem eptrKey_int (k : IntKind) (n : Int) : eptrKey (.int k n) = [] := rfl
@[simp] theorem eptrKey_bool (b : Bool) : eptrKey (.bool b) = [] := rfl
@[simp] theorem eptrKey_str (b : ByteArray) : eptrKey (.str b) = [] := rfl
@[simp] theorem eptrKey_arr (s : Nat) (x : List (List PV)) : eptrKey (.arr s x) = [] := rfl
@[simp] theorem eptrKey_nil' : eptrKey .nil = [] := rfl
@[simp] theorem eptrKey_ref (k o l v : Nat) : eptrKey (.ref k o l v) = [] := rfl
@[simp] theorem eptrKey_ptr (k o : Nat) : eptrKey (.ptr k o) = [] := rfl
@[simp] theorem eptrKey_eptr (k i o v : Nat) : eptrKey (.eptr k i o v) = [k] := rfl
@[simp] theorem eptrKey_cptr (c : List PV) (o : Nat) : eptrKey (.cptr c o) = [] := rfl
@[simp] theorem eptrKey_fn (g : FuncId) (c : List PV) : eptrKey (.fn g c) = [] := rfl
@[simp] theorem eptrKey_skip : eptrKey .skip = [] := rfl
@[simp] theorem eptrKey_undef : eptrKey .undef = [] := rfl
theorem wrap_small {n : Int} (h1 : -9223372036854775808 ≤ n) (h2 : n < 9223372036854775808) : IntKind.i64.wrap n = n := by
  show (if (true && decide (n % 2 ^ 64 ≥ 2 ^ (64 - 1))) = true then n % 2 ^ 64 - 2 ^ 64 else n % 2 ^ 64) = n
  rw [Bool.true_and]
  split
  · rename_i h
    have := of_decide_eq_true h
    omega
  · rename_i h
    have : ¬ (n % 2 ^ 64 ≥ 2 ^ (64 - 1)) := fun h' => h (decide_eq_true h')
    omega
theorem wrap_nat {i : Nat} (h : i < 9223372036854775807) : IntKind.i64.wrap ((i : Int) + 1) = ((i + 1 : Nat) : Int) := by
  rw [wrap_small (by omega) (by omega)]; rfl
end Go.AI
/- Rows that are written one after another. -/
namespace Go.AI
/-- The first i rows written, the others as made. -/
def part {α : Type} (rows : List α) (z : α) (i : Nat) : List α := rows.take i ++ List.replicate (rows.length - i) z
theorem part_zero {α : Type} (rows : List α) (z : α) : part rows z 0 = List.replicate rows.length z := by simp [part]
theorem part_all {α : Type} (rows : List α) (z : α) : part rows z rows.length = rows := by simp [part]
theorem part_len {α : Type} (rows : List α) (z : α) {i : Nat} (h : i ≤ rows.length) : (part rows z i).length = rows.length := by simp [part]; omega
theorem part_set {α : Type} (rows : List α) (z : α) {i : Nat} (h : i < rows.length) {v : α} (hv : rows[i] = v) : (part rows z i).set i v = part rows z (i + 1) := by
  subst hv
  unfold part
  rw [show rows.length - i = (rows.length - (i + 1)) + 1 by omega, List.replicate_succ, List.set_append, List.length_take, if_neg (by omega), show i - min i rows.length = 0 by omega, List.set_cons_zero, List.take_succ_eq_append_getElem h, List.append_assoc]
  rfl
theorem part_get {α : Type} (rows : List α) (z : α) {i : Nat} (h : i < rows.length) : (part rows z i)[i]? = some z := by
  unfold part
  rw [List.getElem?_append_right (by rw [List.length_take]; omega), List.length_take, show i - min i rows.length = 0 by omega, List.getElem?_replicate, if_pos (by omega)]
theorem part_at {α : Type} (rows : List α) (z : α) {i : Nat} (h : i < rows.length) (h' : i < (part rows z i).length) : (part rows z i)[i] = z := Option.some.inj ((List.getElem?_eq_getElem h').symm.trans (part_get rows z h))
end Go.AI
