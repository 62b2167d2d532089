/- The interpreter of pure values. -/
import Derived.Calls
set_option linter.unusedSimpArgs false
set_option linter.unusedVariables false
/- An interpreter of the program's code on pure values. -/
namespace Go.AI
open Go
/-- Pure values. A slice is its elements (each its cells); 'ref' is a slice of a block under construction, 'ptr' an address in a box, 'eptr' in a block's element, 'cptr' in cells that stay. 'oarr', 'optr': a slice, a box, that nobody else holds (in results alone). -/
inductive PV where
  | undef
  | skip
  | nil
  | int (k : IntKind) (n : Int)
  | bool (b : Bool)
  | str (s : ByteArray)
  | arr (sz : Nat) (xs : List (List PV))
  | oarr (e : TypeId) (xs : List (List PV))
  | ref (key off len ver : Nat)
  | ptr (key off : Nat)
  | eptr (key idx off ver : Nat)
  | cptr (cells : List PV) (off : Nat)
  | optr (cells : List PV)
  | fn (f : FuncId) (cap : List PV)
  | agg (cs : List PV)
  | tup (vs : List PV)
deriving Inhabited

/-- What is told of a type. -/
structure TI where
  sz : Nat := 1
  agg : Bool := false
  offs : List Nat := []
  fsz : List Nat := []
  fagg : List Bool := []
  elem : Nat := 0
  alen : Option Nat := none
  bytes : Nat := 8
  zero : List PV := []
  slc : Bool := false
  ik : Option IntKind := none
  bl : Bool := false
  st : Bool := false
  eqi : Bool := false    -- a struct of whole numbers that may be compared

/-- A block under construction: is it written no more; how many elements; of which type; the elements. -/
structure Blk where
  froz : Bool
  n : Nat
  e : TypeId
  xs : List (List PV)

abbrev Map (α : Type) := List (Nat × α)
def Map.get {α : Type} (k : Nat) : Map α → Option α
  | [] => none
  | (j, v) :: r => if j = k then some v else get k r
def Map.put {α : Type} (k : Nat) (v : α) : Map α → Map α
  | [] => [(k, v)]
  | (j, u) :: r => if j = k then (k, v) :: r else if j < k then (k, v) :: (j, u) :: r else (j, u) :: put k v r
def Map.puts {α : Type} : Map α → Map α → Map α
  | [], m => m
  | (k, v) :: r, m => puts r (put k v m)

structure St where
  t : Map PV
  b : Map (List PV)
  m : Map Blk
/-- What an operation sees. -/
structure Look where
  t : Nat → PV
  b : Nat → Option (List PV)
  m : Nat → Option Blk
def St.look (st : St) : Look := ⟨fun t => (Map.get t st.t).getD .undef, fun k => Map.get k st.b, fun k => Map.get k st.m⟩
/-- What an operation does: the destination's value, and what is written. -/
structure Did where
  v : PV
  wb : Map (List PV) := []
  wm : Map Blk := []

inductive Ex where
  | normal | exit (id : Nat) | ret

structure Cfg where
  P : Program
  ty : TypeId → TI
  /-- the temporaries that are kept at a loop's head -/
  live : FuncId → Nat → List Nat
  /-- the functions that are known -/
  ok : FuncId → Bool
  /-- the calls whose resulting slices are owned -/
  own : FuncId → Nat → Bool
  /-- the arguments that are handed on to be written -/
  io : FuncId → List Nat
  /-- the pairs of a region's operations that Go may carry out in either order, where memory counts -/
  pairs : FuncId → Nat → List (Nat × Nat)
  /-- the order in which a drawn region's operations are taken, where that is not the listed one -/
  order : FuncId → Nat → Option (List Nat)
  /-- the package's variables that stay -/
  glob : Nat → Option (List PV)
  /-- below this name, what was handed on is kept at a loop's head -/
  keep : FuncId → Nat
  /-- the functions that are told, not carried out -/
  ext : FuncId → List PV → Map (List PV) → Map Blk → Option (List PV × Map (List PV) × Map Blk)

def ofCell : Value → PV
  | .int k n => .int k n
  | .bool b => .bool b
  | .string s => .str s
  | .slice none 0 0 => .nil
  | _ => .undef
def ofConst : Value → PV
  | .agg cs => if (cs.toList.map ofCell).all (fun c => match c with | .undef => false | _ => true) then .agg (cs.toList.map ofCell) else .undef
  | v => ofCell v
def cellsOf : PV → List PV
  | .agg cs => cs
  | v => [v]
def isVal : PV → Bool
  | .undef | .skip | .tup _ => false
  | _ => true
def mk (ag : Bool) (cs : List PV) : Option PV := if ag then some (.agg cs) else match cs with
  | [c] => some c
  | _ => none
/-- n cells from off. -/
def cut (cs : List PV) (off n : Nat) : Option (List PV) := if off + n ≤ cs.length then some ((cs.drop off).take n) else none
def put (cs : List PV) (off : Nat) (new : List PV) : Option (List PV) := if off + new.length ≤ cs.length then some (cs.take off ++ new ++ cs.drop (off + new.length)) else none
def slen : PV → Option Nat
  | .arr _ xs => some xs.length
  | .nil => some 0
  | .ref _ _ len _ => some len
  | _ => none
def refKey : PV → List Nat
  | .ref k _ _ _ => [k]
  | _ => []
def refKeys (cs : List PV) : List Nat := cs.flatMap refKey
def ptrKey : PV → List Nat
  | .ptr k _ => [k]
  | .fn _ cap => cap.flatMap fun | .ptr k _ => [k] | _ => []
  | _ => []
def ptrKeys (cs : List PV) : List Nat := cs.flatMap ptrKey
def eptrKey : PV → List Nat
  | .eptr k _ _ _ => [k]
  | _ => []
def eptrKeys (cs : List PV) : List Nat := cs.flatMap eptrKey

def isPtr : PV → Bool
  | .ptr .. | .cptr .. => true
  | _ => false
def intCmp (op : BinOp) (x y : Int) : Option Bool :=
  match op with
  | .eql => some (decide (x = y)) | .neq => some (!decide (x = y)) | .lss => some (decide (x < y)) | .leq => some (decide (x ≤ y)) | .gtr => some (decide (y < x)) | .geq => some (decide (y ≤ x))
  | _ => none
def eqCell : PV → PV → Option Bool
  | .int k a, .int k' b => if k = k' then some (decide (a = b)) else none
  | _, _ => none
def eqCells : List PV → List PV → Option Bool
  | [], [] => some true
  | a :: x, b :: y => (eqCell a b).bind fun t => if t then eqCells x y else some false
  | _, _ => none
def intOp (op : BinOp) (k : IntKind) (a b : Int) : Option PV :=
  match op with
  | .add => some (.int k (k.wrap (a + b))) | .sub => some (.int k (k.wrap (a - b))) | .mul => some (.int k (k.wrap (a * b)))
  | .quo => if b = 0 then none else some (.int k (k.wrap (a.tdiv b))) | .rem => if b = 0 then none else some (.int k (a.tmod b))
  | .and => some (.int k (k.wrap (BitVec.ofInt k.bits a &&& BitVec.ofInt k.bits b).toNat))
  | .or => some (.int k (k.wrap (BitVec.ofInt k.bits a ||| BitVec.ofInt k.bits b).toNat))
  | .xor => some (.int k (k.wrap (BitVec.ofInt k.bits a ^^^ BitVec.ofInt k.bits b).toNat))
  | op => (intCmp op a b).map .bool
def shiftOp (op : BinOp) (k : IntKind) (a b : Int) : Option PV :=
  match op with
  | .shl => if b < 0 then none else some (.int k (k.wrap (a * 2 ^ (min b.toNat k.bits))))
  | .shr => if b < 0 then none else some (.int k (a.fdiv (2 ^ (min b.toNat k.bits))))
  | _ => none
def isShift : BinOp → Bool
  | .shl | .shr => true
  | _ => false
def strOp (op : BinOp) (a b : ByteArray) : Option PV :=
  match op with
  | .eql => some (.bool (a.toList == b.toList))
  | .neq => some (.bool (!(a.toList == b.toList)))
  | .add => if a.size + b.size ≤ 9223372036854775807 then some (.str (a ++ b)) else none
  | _ => none
def binOp (ti : TI) (op : BinOp) (x y : PV) : Option PV :=
  match x, y with
  | .int k a, .int k' b => if isShift op then shiftOp op k a b else if k = k' then intOp op k a b else none
  | .bool a, .bool b => if ti.bl then match op with
      | .eql => some (.bool (a == b))
      | .neq => some (.bool (!(a == b)))
      | _ => none
    else none
  | .str a, .str b => strOp op a b
  | .agg a, .agg b => if ti.eqi ∧ a.length = ti.sz then match op with
      | .eql => (eqCells a b).map .bool
      | .neq => (eqCells a b).map fun t => .bool (!t)
      | _ => none
    else none
  | _, _ => none

def asInt : PV → Option Int
  | .int _ i => some i
  | _ => none

section
variable (C : Cfg) (L : Look)
def ev : Operand → PV
  | .tmp t => L.t t
  | .const v => ofConst v
  | .func f => .fn f []
  | .global g => match C.glob g with
    | some cs => .cptr cs 0
    | none => .undef
/-- A slice's elements, of the type e. -/
def elems (e : TypeId) : PV → Option (List (List PV))
  | .arr s xs => if s = (C.ty e).sz then some xs else none
  | .nil => some []
  | .ref k off len ver => (L.m k).bind fun B => if B.e = e ∧ ver = B.n ∧ off + len ≤ B.n then some ((B.xs.drop off).take len) else none
  | _ => none
/-- A cell as it may stand where it stays. -/
def keepC : PV → Option PV
  | .ref k off len ver => (L.m k).bind fun B => if ver = B.n ∧ off + len ≤ B.n then some (.arr (C.ty B.e).sz ((B.xs.drop off).take len)) else none
  | .nil => some .nil
  | .int k n => some (.int k n)
  | .bool b => some (.bool b)
  | .str s => some (.str s)
  | .arr s xs => some (.arr s xs)
  | .fn f [] => some (.fn f [])
  | _ => none
def keepL : List PV → Option (List PV)
  | [] => some []
  | c :: cs => (keepC C L c).bind fun c => (keepL cs).bind fun cs => some (c :: cs)
/-- Blocks that are written no more. -/
def frost : List Nat → Map Blk
  | [] => []
  | k :: ks => match L.m k with
    | some B => (k, { B with froz := true }) :: frost ks
    | none => frost ks

def loadAt (t : TypeId) : PV → Option PV
  | .ptr k off => ((L.b k).bind fun cs => cut cs off (C.ty t).sz).bind (mk (C.ty t).agg)
  | .eptr k i off ver => ((L.m k).bind fun B => if ver = B.n then (B.xs[i]?).bind fun cs => cut cs off (C.ty t).sz else none).bind (mk (C.ty t).agg)
  | .cptr cs off => (cut cs off (C.ty t).sz).bind (mk (C.ty t).agg)
  | _ => none
def movePtr (d : Nat) : PV → Option PV
  | .ptr k off => some (.ptr k (off + d))
  | .eptr k i off ver => some (.eptr k i (off + d) ver)
  | .cptr cs off => some (.cptr cs (off + d))
  | _ => none
def indexAt (t : TypeId) (i : Int) : PV → Option PV
  | .arr s xs => if (C.ty t).slc ∧ s = (C.ty (C.ty t).elem).sz ∧ 0 ≤ i then (xs[i.toNat]?).map fun cs => .cptr cs 0 else none
  | .ref k off len ver => if (C.ty t).slc ∧ 0 ≤ i ∧ i < len then (L.m k).bind fun B => if B.e = (C.ty t).elem ∧ ver = B.n ∧ off + len ≤ B.n then some (.eptr k (off + i.toNat) 0 ver) else none else none
  | v => (C.ty t).alen.bind fun n => if 0 ≤ i ∧ i < n then movePtr (i.toNat * (C.ty (C.ty t).elem).sz) v else none
def indexIn (t : TypeId) (i : Int) : PV → Option PV
  | .str s => if h : (C.ty t).st = true ∧ 0 ≤ i ∧ i.toNat < s.size then some (.int .u8 (s[i.toNat]'h.2.2).toNat) else none
  | .agg cs => (C.ty t).alen.bind fun n => if 0 ≤ i ∧ i < n then (cut cs (i.toNat * (C.ty (C.ty t).elem).sz) (C.ty (C.ty t).elem).sz).bind (mk (C.ty (C.ty t).elem).agg) else none
  | _ => none
def bound (d : Int) : Option Operand → Option Int
  | none => some d
  | some x => asInt (ev C L x)
def sliceOf (t : TypeId) (x : PV) (l h : Int) : Option PV :=
  match x with
  | .arr s xs => if (C.ty t).slc ∧ s = (C.ty (C.ty t).elem).sz ∧ 0 ≤ l ∧ l ≤ h ∧ h ≤ xs.length then some (.arr s ((xs.drop l.toNat).take (h.toNat - l.toNat))) else none
  | .ref k off len ver => if (C.ty t).slc ∧ 0 ≤ l ∧ l ≤ h ∧ h ≤ len then (L.m k).bind fun B => if B.e = (C.ty t).elem ∧ ver = B.n then some (.ref k (off + l.toNat) (h.toNat - l.toNat) ver) else none else none
  | .nil => if (C.ty t).slc ∧ l = 0 ∧ h = 0 then some .nil else none
  | .str s => if (C.ty t).st ∧ 0 ≤ l ∧ l ≤ h ∧ h ≤ s.size then some (.str (s.extract l.toNat h.toNat)) else none
  | _ => none
def lenOf (ti : TI) : PV → Option Int
  | .str s => if ti.st then some s.size else none
  | v => if ti.slc then (slen v).map fun n => (n : Int) else none
def fill (t : TypeId) : List (Nat × Operand) → List PV → Option (List PV)
  | [], cs => some cs
  | (i, x) :: r, cs => (match (C.ty t).alen with | some _ => some (i * (C.ty (C.ty t).elem).sz, (C.ty (C.ty t).elem).sz) | none => (C.ty t).offs[i]?.bind fun o => (C.ty t).fsz[i]?.map fun n => (o, n)).bind fun p =>
    if isVal (ev C L x) ∧ (cellsOf (ev C L x)).length = p.2 then (put cs p.1 (cellsOf (ev C L x))).bind (fill t r) else none
/-- Operations that give a value and write nothing. -/
def pureOp : Op → Option PV
  | .move x => some (ev C L x)
  | .assign x => some (ev C L x)
  | .pick c a b => match ev C L c with
    | .bool t => some (if t then ev C L a else ev C L b)
    | _ => none
  | .load t a => loadAt C L t (ev C L a)
  | .nilCheck x => movePtr 0 (ev C L x)
  | .fieldAddr s x f => ((C.ty s).offs[f]?).bind fun d => movePtr d (ev C L x)
  | .indexAddr t x i => (asInt (ev C L i)).bind fun i => indexAt C L t i (ev C L x)
  | .index t x i => (asInt (ev C L i)).bind fun i => indexIn C t i (ev C L x)
  | .field t x f => match ev C L x with
    | .agg cs => ((C.ty t).offs[f]?).bind fun o => ((C.ty t).fsz[f]?).bind fun n => ((C.ty t).fagg[f]?).bind fun g => (cut cs o n).bind (mk g)
    | _ => none
  | .slice t x lo hi none => (bound C L 0 lo).bind fun l => (lenOf (C.ty t) (ev C L x)).bind fun n => (bound C L n hi).bind fun h => sliceOf C L t (ev C L x) l h
  | .binOp op t x y _ => binOp (C.ty t) op (ev C L x) (ev C L y)
  | .unOp .not _ x => match ev C L x with
    | .bool b => some (.bool (!b))
    | _ => none
  | .unOp .neg _ x => match ev C L x with
    | .int k n => some (.int k (k.wrap (0 - n)))
    | _ => none
  | .convert _ t x => match (C.ty t).ik, ev C L x with
    | some k, .int _ n => some (.int k (k.wrap n))
    | _, _ => none
  | .extract x i => match ev C L x with
    | .tup vs => vs[i]?
    | _ => none
  | .build t parts => (fill C L t parts.toList (C.ty t).zero).map .agg
  | .makeFunc (.func f) _ cap => if (cap.toList.map (ev C L)).all isPtr then some (.fn f (cap.toList.map (ev C L))) else none
  | .call { callee := .builtin .len, args := xs, argTypes := ts } => match xs.toList, ts.toList with
    | [x], [t] => (lenOf (C.ty t) (ev C L x)).map fun n => .int .i64 n
    | _, _ => none
  | .call { callee := .builtin .min, args := xs, argTypes := _ } => match xs.toList.map (ev C L) with
    | [.int k a, .int k' b] => if k = k' then some (.int k (if b < a then b else a)) else none
    | _ => none
  | .call { callee := .builtin .max, args := xs, argTypes := _ } => match xs.toList.map (ev C L) with
    | [.int k a, .int k' b] => if k = k' then some (.int k (if b > a then b else a)) else none
    | _ => none
  | _ => none

def keepRows (sz : Nat) : List PV → Option (List (List PV))
  | [] => some []
  | v :: vs => (keepL C L (cellsOf v)).bind fun c => if c.length = sz then (keepRows sz vs).bind fun r => some (c :: r) else none
def appendTo (d : Nat) (e : TypeId) (ys : List (List PV)) : PV → Option Did
  | .ref k off len ver => (L.m k).bind fun B => if B.froz = false ∧ B.e = e ∧ ver = B.n ∧ off + len = B.n ∧ (B.n + ys.length) * (C.ty e).bytes ≤ 140737488355328 then
      some { v := .ref k off (len + ys.length) (B.n + ys.length), wm := [(k, { froz := false, n := B.n + ys.length, e, xs := B.xs ++ ys })] } else none
  | .nil => match L.m (64 * d), ys with
    | _, [] => some { v := .nil }
    | none, y :: ys => if (ys.length + 1) * (C.ty e).bytes ≤ 140737488355328 then some { v := .ref (64 * d) 0 (ys.length + 1) (ys.length + 1), wm := [(64 * d, { froz := false, n := ys.length + 1, e, xs := y :: ys })] } else none
    | _, _ => none
  | _ => none
def storeAt (cells : List PV) : PV → Option Did
  | .ptr k off => (L.b k).bind fun cs => (put cs off cells).map fun cs => { v := .skip, wb := [(k, cs)] }
  | .eptr k i off ver => (L.m k).bind fun B => if B.froz = false ∧ ver = B.n then (B.xs[i]?).bind fun cs => (keepL C L cells).bind fun new => (put cs off new).bind fun cs =>
      if (refKeys cells).contains k then none else some { v := .skip, wm := (k, { B with xs := B.xs.set i cs }) :: frost L (refKeys cells) }
    else none
  | _ => none
/-- Operations on memory, but for calls. -/
def memOp (d : Nat) : Op → Option Did
  | .alloc t => if (L.b (64 * d)).isNone then some { v := .ptr (64 * d) 0, wb := [(64 * d, (C.ty t).zero)] } else none
  | .box t x => if (L.b (64 * d)).isNone ∧ isVal (ev C L x) ∧ (cellsOf (ev C L x)).length = (C.ty t).sz then some { v := .ptr (64 * d) 0, wb := [(64 * d, cellsOf (ev C L x))] } else none
  | .store t a x => if isVal (ev C L x) ∧ (cellsOf (ev C L x)).length = (C.ty t).sz then storeAt C L (cellsOf (ev C L x)) (ev C L a) else none
  | .buildSlice t n parts => if parts.toList.map (·.1) = List.range n ∧ (L.m (64 * d)).isNone then
      (keepRows C L (C.ty (C.ty t).elem).sz (parts.toList.map fun p => ev C L p.2)).bind fun xs =>
        some { v := .ref (64 * d) 0 n n, wm := (64 * d, { froz := false, n, e := (C.ty t).elem, xs }) :: frost L (refKeys (parts.toList.flatMap fun p => cellsOf (ev C L p.2))) }
    else none
  | .makeSlice t l c => match ev C L l, ev C L c with
    | .int k n, .int k' n' => if k = k' ∧ n = n' ∧ 0 ≤ n ∧ n * (C.ty (C.ty t).elem).bytes ≤ 281474976710656 ∧ (L.m (64 * d)).isNone then
        some { v := .ref (64 * d) 0 n.toNat n.toNat, wm := [(64 * d, { froz := false, n := n.toNat, e := (C.ty t).elem, xs := List.replicate n.toNat (C.ty (C.ty t).elem).zero })] } else none
    | _, _ => none
  | .call { callee := .builtin .append, args := xs, argTypes := ts } => match xs.toList, ts.toList with
    | [s, x], t :: _ => (elems C L (C.ty t).elem (ev C L x)).bind fun ys => appendTo C L d (C.ty t).elem ys (ev C L s)
    | _, _ => none
  | _ => none

/-- What a callee is given for a cell that it may only read. -/
def lendC : PV → Option PV
  | .ptr k off => (L.b k).bind fun cs => (keepL C L cs).map fun cs => .cptr cs off
  | .eptr k i off ver => ((L.m k).bind fun B => if ver = B.n then B.xs[i]? else none).map fun cs => .cptr cs off
  | .cptr cs off => some (.cptr cs off)
  | .fn f cap => (lendCap cap).map (.fn f)
  | v => keepC C L v
where lendCap : List PV → Option (List PV)
  | [] => some []
  | .ptr k off :: r => (L.b k).bind fun cs => (keepL C L cs).bind fun cs => (lendCap r).bind fun r => some (.cptr cs off :: r)
  | .cptr cs off :: r => (lendCap r).bind fun r => some (.cptr cs off :: r)
  | _ :: _ => none
def lendL : List PV → Option (List PV)
  | [] => some []
  | c :: cs => (lendC C L c).bind fun c => (lendL cs).bind fun cs => some (c :: cs)
def lend : PV → Option PV
  | .agg cs => (lendL C L cs).map .agg
  | v => lendC C L v
/-- What is handed on: the arguments; boxes and blocks by the callee's names; whose they were by the caller's. -/
structure Hand where
  vs : List PV
  b : Map (List PV) := []
  m : Map Blk := []
  kb : Map Nat := []
  km : Map Nat := []
def Hand.app (x y : Hand) : Hand := ⟨x.vs ++ y.vs, x.b ++ y.b, x.m ++ y.m, x.kb ++ y.kb, x.km ++ y.km⟩
def handC (j : Nat) : PV → Option Hand
  | .ref k 0 len ver => (L.m k).bind fun B => if B.froz = false ∧ ver = B.n ∧ len = B.n then some { vs := [.ref j 0 len len], m := [(j, B)], km := [(j, k)] } else none
  | .ref _ (_ + 1) _ _ => none
  | c => (keepC C L c).map fun c => { vs := [c] }
def handCells : Nat → List PV → Option Hand
  | _, [] => some { vs := [] }
  | j, c :: cs => (handC C L j c).bind fun x => (handCells (j + 1) cs).bind fun y => some (x.app y)
def handV (p : Nat) : PV → Option Hand
  | .ptr k 0 => (L.b k).bind fun cs => (handCells C L (64 * p + 1) cs).bind fun x => some { vs := [.ptr (64 * p) 0], b := [(64 * p, x.vs)], m := x.m, kb := [(64 * p, k)], km := x.km }
  | .ref k off len ver => handC C L (64 * p) (.ref k off len ver)
  | _ => none
def isHand (io : List Nat) (p : Nat) (v : PV) : Bool := io.contains p && match v with
  | .ptr _ _ | .ref _ _ _ _ => true
  | _ => false
/-- A call's arguments: what is lent, and what is handed on to be written. -/
def hand (io : List Nat) : Nat → List PV → Option Hand
  | _, [] => some { vs := [] }
  | p, v :: vs => (hand io (p + 1) vs).bind fun r => (if isHand io p v then handV C L p v else (lend C L v).map fun v => { vs := [v] }).bind fun x => some (x.app r)
/-- The names of what is lent. -/
def lentM (io : List Nat) : Nat → List PV → List Nat
  | _, [] => []
  | p, v :: vs => (if isHand io p v then [] else (refKeys (cellsOf v) ++ eptrKeys (cellsOf v))) ++ lentM io (p + 1) vs
def lentB (io : List Nat) : Nat → List PV → List Nat
  | _, [] => []
  | p, v :: vs => (if isHand io p v then [] else ptrKeys (cellsOf v)) ++ lentB io (p + 1) vs
/-- What is handed on is handed on once, and lent to nobody. -/
def handOk (io : List Nat) (vs : List PV) (h : Hand) (plain : Bool) : Bool :=
  match io with
  | [] => plain || (lentB io 0 vs).isEmpty
  | _ => (lentB io 0 vs).isEmpty && (decide (h.kb.map (·.1)).Nodup && decide (h.kb.map (·.2)).Nodup && decide (h.km.map (·.1)).Nodup && decide (h.km.map (·.2)).Nodup && h.km.all fun p => !(lentM io 0 vs).contains p.2)
/-- The caller's name for what the callee names so. -/
def renK (km : Map Nat) (d j : Nat) : Nat := (Map.get j km).getD (64 * d + 32 + (j / 64) * 8 + j % 64)
def renC (ρ : Nat → Nat) : PV → PV
  | .ref k off len ver => .ref (ρ k) off len ver
  | c => c
def plainCell : PV → Bool
  | .int .. | .bool _ | .str _ => true
  | _ => false
def plainRes (rs : List PV) : Bool := rs.all fun v => (cellsOf v).all plainCell

/-- A result cell as it is handed back. -/
def giveC (io : Map Blk) : PV → Option PV
  | .ref k off len ver => (L.m k).bind fun B => if ver = B.n ∧ off + len ≤ B.n then (if (Map.get k io).isSome then some (.ref k off len ver)
      else if B.froz = false ∧ off = 0 ∧ len = B.n then some (.oarr B.e B.xs) else some (.arr (C.ty B.e).sz ((B.xs.drop off).take len))) else none
  | .ptr k 0 => (L.b k).bind fun cs => (keepL C L cs).map .optr
  | v => keepC C L v
def giveL (io : Map Blk) : List PV → Option (List PV)
  | [] => some []
  | c :: cs => (giveC C L io c).bind fun c => (giveL io cs).bind fun cs => some (c :: cs)
def give (io : Map Blk) : PV → Option PV
  | .agg cs => (giveL C L io cs).map .agg
  | v => giveC C L io v
def giveAll (io : Map Blk) : List PV → Option (List PV)
  | [] => some []
  | v :: vs => (give C L io v).bind fun v => (giveAll io vs).bind fun vs => some (v :: vs)
/-- A result cell as the caller takes it. -/
def takeC (own : Bool) (ρ : Nat → Nat) (k : Nat) : PV → PV × Map (List PV) × Map Blk
  | .oarr e xs => if own then (.ref k 0 xs.length xs.length, [], [(k, { froz := false, n := xs.length, e, xs })]) else (.arr (C.ty e).sz xs, [], [])
  | .optr cs => (.ptr k 0, [(k, cs)], [])
  | .ref j off len ver => (.ref (ρ j) off len ver, [], [])
  | v => (v, [], [])
def takeL (own : Bool) (ρ : Nat → Nat) : Nat → List PV → List PV × Map (List PV) × Map Blk
  | _, [] => ([], [], [])
  | k, c :: cs => let r := takeC C own ρ k c; let q := takeL own ρ (k + 1) cs; (r.1 :: q.1, r.2.1 ++ q.2.1, r.2.2 ++ q.2.2)
def take (own : Bool) (ρ : Nat → Nat) (k : Nat) : PV → PV × Map (List PV) × Map Blk
  | .agg cs => let r := takeL C own ρ k cs; (.agg r.1, r.2)
  | v => takeC C own ρ k v
def takeAll (own : Bool) (ρ : Nat → Nat) : Nat → List PV → List PV × Map (List PV) × Map Blk
  | _, [] => ([], [], [])
  | k, v :: ws => let r := take C own ρ k v; let q := takeAll own ρ (k + (cellsOf v).length) ws; (r.1 :: q.1, r.2.1 ++ q.2.1, r.2.2 ++ q.2.2)
def takeRes (own : Bool) (ρ : Nat → Nat) (k : Nat) : List PV → PV × Map (List PV) × Map Blk
  | [v] => take C own ρ k v
  | ws => let r := takeAll C own ρ k ws; (.tup r.1, r.2)

def results : List ResultVar → Option (List PV)
  | [] => some []
  | .tmp t :: rs => (results rs).bind fun vs => some (L.t t :: vs)
  | .cell a t :: rs => (loadAt C L t (L.t a)).bind fun v => (results rs).bind fun vs => some (v :: vs)

def direct : Operand → Bool
  | .func _ => true
  | _ => false
/-- The callee and all arguments. -/
def callee : Op → Option (FuncId × List PV)
  | .call { callee := .value g, args := xs, argTypes := _ } => match ev C L g with
    | .fn f cap => if direct g || (C.io f).isEmpty then some (f, xs.toList.map (ev C L) ++ cap) else none
    | _ => none
  | _ => none
abbrev Caller := FuncId → List PV → Map (List PV) → Map Blk → Option (List PV × Map (List PV) × Map Blk)
def fresh {α : Type} (get : Nat → Option α) (w : Map α) : Bool := w.all fun p => (get p.1).isNone
/-- What was handed on, as it comes back. -/
def backB (h : Hand) (d : Nat) (b : Map (List PV)) : Map (List PV) := b.map fun p => (renK h.kb d p.1, p.2.map (renC (renK h.km d)))
def backM (h : Hand) (d : Nat) (m : Map Blk) : Map Blk := m.map fun p => (renK h.km d p.1, p.2)
def backOk (h : Hand) (d : Nat) (b : Map (List PV)) (m : Map Blk) (tm : Map Blk) : Bool :=
  b.all (fun p => (Map.get p.1 h.kb).isSome && p.2.all fun c => (ptrKey c).isEmpty && (eptrKey c).isEmpty) && (decide ((backB h d b).map (·.1)).Nodup && (decide ((backM h d m).map (·.1)).Nodup && (m.all (fun p => (Map.get p.1 h.km).isSome || (L.m (renK h.km d p.1)).isNone) && tm.all fun p => (Map.get p.1 (backM h d m)).isNone)))
/-- What was written for the caller. -/
def wrote (C : Cfg) (g : FuncId) (r : List PV × Map (List PV) × Map Blk) : Map (List PV) × Map Blk := if (C.io g).isEmpty then ([], []) else r.2
/-- What a call does, behind its return. -/
def callDo (f : FuncId) (d : Nat) (q : FuncId × List PV) (h : Hand) (r : List PV × Map (List PV) × Map Blk) : Option Did :=
  if fresh L.b (takeRes C (C.own f d) (renK h.km d) (64 * d) r.1).2.1 && (fresh L.m (takeRes C (C.own f d) (renK h.km d) (64 * d) r.1).2.2 && (handOk (C.io q.1) q.2 h (plainRes r.1 && (C.io q.1).isEmpty) && backOk L h d (wrote C q.1 r).1 (wrote C q.1 r).2 (takeRes C (C.own f d) (renK h.km d) (64 * d) r.1).2.2)) then
    some { v := (takeRes C (C.own f d) (renK h.km d) (64 * d) r.1).1, wb := backB h d (wrote C q.1 r).1 ++ (takeRes C (C.own f d) (renK h.km d) (64 * d) r.1).2.1, wm := (if plainRes r.1 && (C.io q.1).isEmpty then [] else frost L (lentM (C.io q.1) 0 q.2)) ++ (backM h d (wrote C q.1 r).2 ++ (takeRes C (C.own f d) (renK h.km d) (64 * d) r.1).2.2) }
  else none
def callOp (call : Caller) (f : FuncId) (d : Nat) (o : Op) : Option Did :=
  (callee C L o).bind fun q => (hand C L (C.io q.1) 0 q.2).bind fun h => (call q.1 h.vs h.b h.m).bind fun r => callDo C L f d q h r

inductive Kind where | pure | mem | call
def kindOf : Op → Kind
  | .alloc _ | .box .. | .store .. | .buildSlice .. | .makeSlice .. | .call { callee := .builtin .append, .. } => .mem
  | .call { callee := .value _, .. } => .call
  | _ => .pure
/-- One operation. -/
def opW (call : Caller) (f : FuncId) (o : Oper) : Option Did :=
  match kindOf o.op with
  | .pure => (pureOp C L o.op).map fun v => { v }
  | .mem => memOp C L (o.dst.getD 0) o.op
  | .call => callOp C L call f (o.dst.getD 0) o.op
end

def putDst (d : Option Tmp) (v : PV) (t : Map PV) : Map PV := match d with
  | some d => Map.put d v t
  | none => t
def St.after (st : St) (d : Option Tmp) (a : Did) : St := { t := putDst d a.v st.t, b := Map.puts a.wb st.b, m := Map.puts a.wm st.m }
def guardOk (all : List Oper) (L : Look) : Option (Nat × Bool) → Option Bool
  | none => some true
  | some (j, want) => match ((all[j]?).bind (·.dst)).map L.t with
    | some (.bool b) => some (b == want)
    | some .skip => some false
    | _ => none
/-- All memory that a cell names is known. -/
def okCell (st : St) (c : PV) : Bool := (ptrKey c).all (fun k => (Map.get k st.b).isSome) && (refKey c ++ eptrKey c).all fun k => (Map.get k st.m).isSome
def cellsT : PV → List PV
  | .tup ps => ps.flatMap cellsOf
  | v => cellsOf v
def closed (st : St) : Bool := st.t.all (fun p => (cellsT p.2).all (okCell st)) && st.b.all fun p => p.2.all (okCell st)
def sift (keep : Nat) (ts : List Nat) (st : St) : St :=
  let t := st.t.filter fun p => ts.contains p.1
  let ks := ptrKeys (t.flatMap fun p => cellsOf p.2)
  let b := st.b.filter (fun p => ks.contains p.1 || decide (p.1 < keep))
  let rs := (t.flatMap fun p => (cellsOf p.2).flatMap fun c => refKey c ++ eptrKey c) ++ b.flatMap fun p => p.2.flatMap fun c => refKey c ++ eptrKey c
  { t, b, m := st.m.filter (fun p => rs.contains p.1 || decide (p.1 < keep)) }
/-- What is kept at a loop's head. -/
def tidy (keep : Nat) (ts : List Nat) (st : St) : St := if closed (sift keep ts st) then sift keep ts st else st
/-- A loop's name: its first region's. -/
def headOf : Code → Nat
  | .region id _ _ => id
  | .seq a _ => headOf a
  | _ => 0
def Ex.isNormal : Ex → Bool
  | .normal => true
  | _ => false
def Ex.leave (id : Nat) : Ex → Ex
  | .exit i => if i = id then .normal else .exit i
  | e => e
/-- What an operation reads of memory, by name. -/
structure Foot where
  rb : List Nat
  rm : List Nat
  wb : List Nat
  wm : List Nat
def keysIn (cs : List PV) : List Nat × List Nat := (ptrKeys cs, refKeys cs ++ cs.flatMap eptrKey)

section
variable (C : Cfg) (L : Look)
/-- A cell of a box that was handed on, as it comes back; with its block's names (outside, inside). -/
def outC (io : Map Blk) (q : Nat) : PV → Option (PV × Map Nat)
  | .ref k off len ver => (L.m k).bind fun B => if (Map.get k io).isSome then some (.ref k off len ver, [])
    else if B.froz = false ∧ ver = B.n ∧ off = 0 ∧ len = B.n ∧ (Map.get q io).isNone then some (.ref q 0 len len, [(q, k)]) else none
  | c => (keepC C L c).map fun c => (c, [])
def outCells (io : Map Blk) : Nat → List PV → Option (List PV × Map Nat)
  | _, [] => some ([], [])
  | q, c :: cs => (outC C L io q c).bind fun x => (outCells io (q + 1) cs).bind fun y => some (x.1 :: y.1, x.2 ++ y.2)
def outB (io : Map Blk) : Map (List PV) → Option (Map (List PV) × Map Nat)
  | [] => some ([], [])
  | (p, _) :: r => (L.b p).bind fun cs => (outCells C L io (p + 1) cs).bind fun x => (outB io r).bind fun y => some ((p, x.1) :: y.1, x.2 ++ y.2)
def outM (L : Look) : List (Nat × Nat) → Option (Map Blk)
  | [] => some []
  | (q, k) :: r => (L.m k).bind fun B => (outM L r).bind fun y => some ((q, B) :: y)
end
section
variable (C : Cfg)
/-- The blocks of boxes that are handed over. -/
def refsIn (L : Look) (ks : List Nat) : List Nat := ks.flatMap fun k => refKeys ((L.b k).getD [])
def endOk (io : St) (L : Look) (vs : List PV) (nk : Map Nat) : Bool :=
  decide (refKeys (vs.flatMap cellsOf) ++ (refsIn L (ptrKeys (vs.flatMap cellsOf)) ++ nk.map (·.2))).Nodup && (decide (ptrKeys (vs.flatMap cellsOf)).Nodup && (decide (nk.map (·.1)).Nodup && ((refsIn L (ptrKeys (vs.flatMap cellsOf))).all (fun k => (Map.get k io.m).isNone) && (ptrKeys (vs.flatMap cellsOf)).all (fun k => (Map.get k io.b).isNone))))
def finish (io : St) (e : Ex) (st : St) (rv : List ResultVar) : Option (List PV × Map (List PV) × Map Blk) :=
  match e with
  | .exit _ => none
  | _ => (results C st.look rv).bind fun vs => (giveAll C st.look io.m vs).bind fun rs => (outB C st.look io.m io.b).bind fun ob => (outM st.look (io.m.map (fun p => (p.1, p.1)) ++ ob.2)).bind fun om =>
    if endOk io st.look vs ob.2 then some (rs, ob.1, om) else none
def opsW (call : Caller) (f : FuncId) (all : List Oper) : List Oper → St → Option St
  | [], st => some st
  | o :: l, st => (guardOk all st.look o.guard).bind fun g => (if g then opW C st.look call f o else some { v := .skip }).bind fun a => opsW call f all l (st.after o.dst a)
/-- Rounds, at most so many. -/
def iter (step : St → Option (Ex × St)) : Nat → St → Option (Ex × St)
  | 0, _ => none
  | n + 1, st => (step st).bind fun r => if r.1.isNormal then iter step n r.2 else some r
def start (args : List PV) (b : Map (List PV)) (m : Map Blk) : St := { t := Map.puts (args.zipIdx.map fun p => (p.2, p.1)) [], b, m }
def arrange {α : Type} (l : List α) : Option (List Nat) → List α
  | none => l
  | some p => p.filterMap (l[·]?)
/-- Code, with so many rounds for each loop, and calls as told. -/
def execW (call : Caller) (n : Nat) (f : FuncId) : Code → St → Option (Ex × St)
  | .skip, st => some (.normal, st)
  | .region id os dr, st => (opsW C call f os.toList (if dr then arrange os.toList (C.order f id) else os.toList) st).bind fun st => some (.normal, st)
  | .seq a b, st => (execW call n f a st).bind fun r => if r.1.isNormal then execW call n f b r.2 else some r
  | .cond c a b, st => match ev C st.look c with
    | .bool t => if t then execW call n f a st else execW call n f b st
    | _ => none
  | .block id c, st => (execW call n f c st).bind fun r => some (r.1.leave id, r.2)
  | .loop body, st => iter (fun st => execW call n f body (tidy (C.keep f) (C.live f (headOf body)) st)) n st
  | .exit id, st => some (.exit id, st)
  | .ret, st => some (.ret, st)
  | _, _ => none
def keysOk (n : Nat) (b : Map (List PV)) (m : Map Blk) : Bool := b.all (fun p => decide (p.1 < n)) && m.all fun p => decide (p.1 < n)
/-- Calls, so many deep. -/
def callN : Nat → Caller
  | 0, _, _, _, _ => none
  | n + 1, f, args, b, m => if C.ok f then if keysOk (C.keep f) b m then (C.P.funcs[f]?).bind fun fn => fn.body.bind fun c => (execW C (callN n) n f c (start args b m)).bind fun r => finish C { t := [], b, m } r.1 r.2 fn.results.toList else none else C.ext f args b m
end
end Go.AI
/- Calls and code without a count of rounds; their equations. -/
namespace Go.AI
open Go
/-- x says no more than y. -/
def Le {α : Type} (x y : Option α) : Prop := ∀ r, x = some r → y = some r
theorem Le.rfl {α : Type} {x : Option α} : Le x x := fun _ h => h
theorem Le.trans {α : Type} {x y z : Option α} (h : Le x y) (h' : Le y z) : Le x z := fun r hr => h' r (h r hr)
theorem Le.bind {α β : Type} {x y : Option α} {g k : α → Option β} (h : Le x y) (hg : ∀ a, Le (g a) (k a)) : Le (x.bind g) (y.bind k) := by
  intro r hr
  obtain ⟨a, ha, hr⟩ := Option.bind_eq_some_iff.1 hr
  rw [h a ha]
  exact hg a r hr
theorem Le.none {α : Type} {x : Option α} : Le .none x := fun _ h => by cases h
def LeC (x y : Caller) : Prop := ∀ f args b m, Le (x f args b m) (y f args b m)
open Classical in
/-- What a growing row of answers comes to. -/
noncomputable def lim {α : Type} (g : Nat → Option α) : Option α := if h : ∃ r n, g n = some r then some h.choose else none
def Grows {α : Type} (g : Nat → Option α) : Prop := ∀ n, Le (g n) (g (n + 1))
theorem Grows.le {α : Type} {g : Nat → Option α} (h : Grows g) {n m : Nat} (hm : n ≤ m) : Le (g n) (g m) := by
  obtain ⟨d, rfl⟩ := Nat.le.dest hm
  clear hm
  induction d with
  | zero => exact Le.rfl
  | succ d ih => exact ih.trans (h _)
theorem lim_some {α : Type} {g : Nat → Option α} (h : Grows g) {r : α} : lim g = some r ↔ ∃ n, g n = some r := by
  unfold lim
  constructor
  · intro e
    split at e
    · rename_i hh
      obtain ⟨n, hn⟩ := hh.choose_spec
      exact ⟨n, hn.trans e⟩
    · cases e
  · rintro ⟨n, hn⟩
    have hh : ∃ r n, g n = some r := ⟨r, n, hn⟩
    rw [dif_pos hh]
    obtain ⟨k, hk⟩ := hh.choose_spec
    have h1 := h.le (Nat.le_max_left n k) _ hn
    have h2 := h.le (Nat.le_max_right n k) _ hk
    rw [h1] at h2
    exact h2.symm
theorem lim_eq {α : Type} {g k : Nat → Option α} (h : Grows g) (h' : Grows k) (e : ∀ r, (∃ n, g n = some r) ↔ ∃ n, k n = some r) : lim g = lim k := by
  cases hg : lim g with
  | some r => exact ((lim_some h').2 ((e r).1 ((lim_some h).1 hg))).symm
  | none =>
    cases hk : lim k with
    | none => rfl
    | some r => rw [(lim_some h).2 ((e r).2 ((lim_some h').1 hk))] at hg; cases hg
theorem lim_const {α : Type} (x : Option α) : lim (fun _ => x) = x := by
  cases x with
  | some r => exact (lim_some (fun _ => Le.rfl)).2 ⟨0, rfl⟩
  | none => unfold lim; rw [dif_neg]; rintro ⟨r, n, h⟩; cases h
theorem lim_bind {α β : Type} {g : Nat → Option α} {k : Nat → α → Option β} (h : Grows g) (h' : ∀ a, Grows fun n => k n a) : lim (fun n => (g n).bind (k n)) = (lim g).bind fun a => lim fun n => k n a := by
  have hb : Grows fun n => (g n).bind (k n) := fun n => (h n).bind fun a => h' a n
  cases hg : lim g with
  | some a =>
    obtain ⟨n, hn⟩ := (lim_some h).1 hg
    refine lim_eq hb (h' a) fun r => ⟨?_, ?_⟩
    · rintro ⟨m, hm⟩
      obtain ⟨a', ha', hr⟩ := Option.bind_eq_some_iff.1 hm
      have h1 := h.le (Nat.le_max_left n m) _ hn
      have h2 := h.le (Nat.le_max_right n m) _ ha'
      rw [h1] at h2
      cases h2
      exact ⟨m, hr⟩
    · rintro ⟨m, hm⟩
      refine ⟨max n m, ?_⟩
      show (g _).bind _ = _
      rw [h.le (Nat.le_max_left n m) _ hn]
      exact (h' a).le (Nat.le_max_right n m) _ hm
  | none =>
    cases hl : lim (fun n => (g n).bind (k n)) with
    | none => rfl
    | some r =>
      obtain ⟨m, hm⟩ := (lim_some hb).1 hl
      obtain ⟨a', ha', _⟩ := Option.bind_eq_some_iff.1 hm
      rw [(lim_some h).2 ⟨m, ha'⟩] at hg
      cases hg

section
variable (C : Cfg)
theorem opW_le (L : Look) {x y : Caller} (h : LeC x y) (f : FuncId) (o : Oper) : Le (opW C L x f o) (opW C L y f o) := by
  unfold opW
  split
  · exact Le.rfl
  · exact Le.rfl
  · unfold callOp
    exact Le.bind Le.rfl fun q => Le.bind Le.rfl fun h' => Le.bind (h _ _ _ _) fun r => Le.rfl
theorem opsW_le {x y : Caller} (h : LeC x y) (f : FuncId) (all l : List Oper) (st : St) : Le (opsW C x f all l st) (opsW C y f all l st) := by
  induction l generalizing st with
  | nil => exact Le.rfl
  | cons o l ih =>
    unfold opsW
    refine Le.bind Le.rfl fun g => Le.bind ?_ fun a => ih _
    split
    · exact opW_le C _ h f o
    · exact Le.rfl
theorem iter_le {s s' : St → Option (Ex × St)} (h : ∀ st, Le (s st) (s' st)) (n : Nat) (st : St) : Le (iter s n st) (iter s' (n + 1) st) := by
  induction n generalizing st with
  | zero => exact Le.none
  | succ n ih =>
    unfold iter
    refine Le.bind (h st) fun r => ?_
    split
    · exact ih _
    · exact Le.rfl
theorem iter_mono {s s' : St → Option (Ex × St)} (h : ∀ st, Le (s st) (s' st)) (n : Nat) (st : St) : Le (iter s n st) (iter s' n st) := by
  induction n generalizing st with
  | zero => exact Le.none
  | succ n ih =>
    unfold iter
    refine Le.bind (h st) fun r => ?_
    split
    · exact ih _
    · exact Le.rfl
theorem execW_le {x y : Caller} (h : LeC x y) (n : Nat) (f : FuncId) (c : Code) : ∀ st, Le (execW C x n f c st) (execW C y (n + 1) f c st) := by
  induction c with
  | skip => intro st; exact Le.rfl
  | region id os d => intro st; unfold execW; exact Le.bind (opsW_le C h f _ _ st) fun _ => Le.rfl
  | seq a b iha ihb =>
    intro st
    unfold execW
    refine Le.bind (iha st) fun r => ?_
    split
    · exact ihb _
    · exact Le.rfl
  | cond c a b iha ihb =>
    intro st
    unfold execW
    split
    · split
      · exact iha st
      · exact ihb st
    · exact Le.rfl
  | block id c ih => intro st; unfold execW; exact Le.bind (ih st) fun _ => Le.rfl
  | loop c ih => intro st; unfold execW; exact iter_le (fun st => ih _) n st
  | exit id => intro st; exact Le.rfl
  | ret => intro st; exact Le.rfl
  | _ => intro st; exact Le.none
theorem callN_le (n : Nat) : LeC (callN C n) (callN C (n + 1)) := by
  induction n with
  | zero => intro f args b m; exact Le.none
  | succ n ih =>
    intro f args b m
    unfold callN
    split
    · split
      · exact Le.bind Le.rfl fun fn => Le.bind Le.rfl fun c => Le.bind (execW_le C ih n f c _) fun r => Le.rfl
      · exact Le.rfl
    · exact Le.rfl
theorem callN_ext {f : FuncId} (hk : C.ok f = false) (n : Nat) (args : List PV) (b : Map (List PV)) (m : Map Blk) : callN C (n + 1) f args b m = C.ext f args b m := by
  rw [callN, if_neg (by rw [hk]; exact Bool.false_ne_true)]
/-- A call. -/
noncomputable def call (f : FuncId) (args : List PV) (b : Map (List PV)) (m : Map Blk) : Option (List PV × Map (List PV) × Map Blk) := lim fun n => callN C n f args b m
noncomputable def exec (f : FuncId) (c : Code) (st : St) : Option (Ex × St) := lim fun n => execW C (callN C n) n f c st
theorem call_grows (f : FuncId) (args : List PV) (b : Map (List PV)) (m : Map Blk) : Grows fun n => callN C n f args b m := fun n => callN_le C n f args b m
theorem exec_grows (f : FuncId) (c : Code) (st : St) : Grows fun n => execW C (callN C n) n f c st := fun n => execW_le C (callN_le C n) n f c st
theorem call_some {f : FuncId} {args : List PV} {b : Map (List PV)} {m : Map Blk} {r : List PV × Map (List PV) × Map Blk} : call C f args b m = some r ↔ ∃ n, callN C n f args b m = some r := lim_some (call_grows C f args b m)

theorem call_ext {f : FuncId} (hk : C.ok f = false) (args : List PV) (b : Map (List PV)) (m : Map Blk) : call C f args b m = C.ext f args b m := by
  refine Option.ext fun r => ?_
  rw [call_some]
  constructor
  · rintro ⟨n, hn⟩
    cases n with
    | zero => cases hn
    | succ n => rwa [callN_ext C hk] at hn
  · intro h
    exact ⟨1, by rw [callN_ext C hk]; exact h⟩
theorem lim_out {α β : Type} (x : Option α) (k : Nat → α → Option β) : lim (fun n => x.bind (k n)) = x.bind fun a => lim fun n => k n a := by
  cases x with
  | none => exact lim_const _
  | some a => rfl
theorem callOp_lim (L : Look) (f : FuncId) (d : Nat) (o : Op) : lim (fun n => callOp C L (callN C n) f d o) = callOp C L (call C) f d o := by
  unfold callOp
  refine (lim_out _ _).trans (congrArg _ (funext fun q => (lim_out _ _).trans (congrArg _ (funext fun h => ?_))))
  refine (lim_bind (k := fun _ r => callDo C L f d q h r) (call_grows C _ _ _ _) (fun a n => Le.rfl)).trans ?_
  exact congrArg _ (funext fun r => lim_const _)
theorem opW_lim (L : Look) (f : FuncId) (o : Oper) : lim (fun n => opW C L (callN C n) f o) = opW C L (call C) f o := by
  unfold opW
  split
  · exact lim_const _
  · exact lim_const _
  · exact callOp_lim C L f _ _
theorem opsW_lim (f : FuncId) (all l : List Oper) (st : St) : lim (fun n => opsW C (callN C n) f all l st) = opsW C (call C) f all l st := by
  induction l generalizing st with
  | nil => exact lim_const _
  | cons o l ih =>
    unfold opsW
    refine (lim_out _ _).trans (congrArg _ (funext fun g => ?_))
    refine (lim_bind (g := fun n => if g = true then opW C st.look (callN C n) f o else some { v := PV.skip }) (k := fun n a => opsW C (callN C n) f all l (st.after o.dst a)) ?_ (fun a n => opsW_le C (callN_le C n) f all l _)).trans ?_
    · intro n
      show Le (ite _ _ _) (ite _ _ _)
      split
      · exact opW_le C _ (callN_le C n) f o
      · exact Le.rfl
    · have : lim (fun n => if g = true then opW C st.look (callN C n) f o else some { v := PV.skip }) = if g = true then opW C st.look (call C) f o else some { v := PV.skip } := by
        split
        · exact opW_lim C _ f o
        · exact lim_const _
      rw [this]
      exact congrArg _ (funext fun a => ih _)

theorem call_eq {f : FuncId} {fn : Func} {c : Code} (hf : C.P.funcs[f]? = some fn) (hc : fn.body = some c) (hk : C.ok f = true) (args : List PV) (b : Map (List PV)) (m : Map Blk) (hb : keysOk (C.keep f) b m = true) :
    call C f args b m = (exec C f c (start args b m)).bind fun r => finish C { t := [], b, m } r.1 r.2 fn.results.toList := by
  have h1 : Grows fun n => (execW C (callN C n) n f c (start args b m)).bind fun r => finish C { t := [], b, m } r.1 r.2 fn.results.toList := fun n => Le.bind (exec_grows C f c _ n) fun _ => Le.rfl
  have h2 : call C f args b m = lim fun n => (execW C (callN C n) n f c (start args b m)).bind fun r => finish C { t := [], b, m } r.1 r.2 fn.results.toList := by
    refine lim_eq (call_grows C f args b m) h1 fun r => ⟨?_, ?_⟩
    · rintro ⟨n, hn⟩
      cases n with
      | zero => cases hn
      | succ n => rw [callN, if_pos hk, if_pos hb, hf, Option.bind_some, hc, Option.bind_some] at hn; exact ⟨n, hn⟩
    · rintro ⟨n, hn⟩
      exact ⟨n + 1, by rw [callN, if_pos hk, if_pos hb, hf, Option.bind_some, hc, Option.bind_some]; exact hn⟩
  rw [h2, lim_bind (exec_grows C f c _) (fun _ _ => Le.rfl)]
  exact congrArg _ (funext fun r => lim_const _)
variable (f : FuncId) (st : St)
theorem exec_skip : exec C f .skip st = some (.normal, st) := lim_const _
theorem exec_region (id : Nat) (os : Array Oper) (d : Bool) : exec C f (.region id os d) st = (opsW C (call C) f os.toList (if d then arrange os.toList (C.order f id) else os.toList) st).bind fun st => some (.normal, st) := by
  unfold exec
  simp only [execW]
  rw [lim_bind (fun n => opsW_le C (callN_le C n) f _ _ st) (fun _ _ => Le.rfl), opsW_lim]
  exact congrArg _ (funext fun _ => lim_const _)
theorem exec_seq (a b : Code) : exec C f (.seq a b) st = (exec C f a st).bind fun r => if r.1.isNormal then exec C f b r.2 else some r := by
  unfold exec
  simp only [execW]
  rw [lim_bind (exec_grows C f a st) ?_]
  · refine congrArg _ (funext fun r => ?_)
    split
    · rfl
    · exact lim_const _
  · intro r n
    split
    · exact exec_grows C f b _ n
    · exact Le.rfl
theorem exec_cond (c : Operand) (a b : Code) : exec C f (.cond c a b) st = match ev C st.look c with | .bool t => if t then exec C f a st else exec C f b st | _ => none := by
  unfold exec
  simp only [execW]
  cases h : ev C st.look c with
  | bool t => cases t <;> rfl
  | _ => exact lim_const _
theorem exec_block (id : Nat) (c : Code) : exec C f (.block id c) st = (exec C f c st).bind fun r => some (r.1.leave id, r.2) := by
  unfold exec
  simp only [execW]
  rw [lim_bind (exec_grows C f c st) (fun _ _ => Le.rfl)]
  exact congrArg _ (funext fun _ => lim_const _)
theorem exec_loop (c : Code) : exec C f (.loop c) st = (exec C f c (tidy (C.keep f) (C.live f (headOf c)) st)).bind fun r => if r.1.isNormal then exec C f (.loop c) r.2 else some r := by
  have hb : ∀ n st, Le (iter (fun st => execW C (callN C n) n f c (tidy (C.keep f) (C.live f (headOf c)) st)) n st) (iter (fun st => execW C (callN C (n + 1)) (n + 1) f c (tidy (C.keep f) (C.live f (headOf c)) st)) (n + 1) st) := fun n st => iter_le (fun st => exec_grows C f c _ n) n st
  have h1 : Grows fun n => (execW C (callN C n) n f c (tidy (C.keep f) (C.live f (headOf c)) st)).bind fun r => if r.1.isNormal then iter (fun st => execW C (callN C n) n f c (tidy (C.keep f) (C.live f (headOf c)) st)) n r.2 else some r := by
    intro n
    refine Le.bind (exec_grows C f c _ n) fun r => ?_
    split
    · exact hb n _
    · exact Le.rfl
  have h2 : exec C f (.loop c) st = lim fun n => (execW C (callN C n) n f c (tidy (C.keep f) (C.live f (headOf c)) st)).bind fun r => if r.1.isNormal then iter (fun st => execW C (callN C n) n f c (tidy (C.keep f) (C.live f (headOf c)) st)) n r.2 else some r := by
    refine lim_eq (exec_grows C f (.loop c) st) h1 fun r => ⟨?_, ?_⟩
    · rintro ⟨n, hn⟩
      simp only [execW] at hn
      cases n with
      | zero => cases hn
      | succ n =>
        refine ⟨n + 1, ?_⟩
        rw [iter] at hn
        revert hn
        refine Le.bind Le.rfl (fun r => ?_) r
        split
        · exact iter_le (fun st => Le.rfl) n _
        · exact Le.rfl
    · rintro ⟨n, hn⟩
      refine ⟨n + 1, ?_⟩
      simp only [execW, iter]
      revert hn
      refine Le.bind (exec_grows C f c _ n) (fun r => ?_) r
      split
      · exact iter_mono (fun st => exec_grows C f c _ n) n r.2
      · exact Le.rfl
  rw [h2, lim_bind (exec_grows C f c _) ?_]
  · refine congrArg _ (funext fun r => ?_)
    split
    · unfold exec; simp only [execW]
    · exact lim_const _
  · intro r n
    split
    · exact hb n _
    · exact Le.rfl
theorem exec_exit (id : Nat) : exec C f (.exit id) st = some (.exit id, st) := lim_const _
theorem exec_ret : exec C f .ret st = some (.ret, st) := lim_const _
end
end Go.AI
