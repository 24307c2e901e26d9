/-
  The evaluator: one operation, a region, a body, a call.
-/
import Derived.Test.YtbdnkdldmfnilaaGreatAbDef
namespace Go.Ab

/-- A program, what stands in the place of some of its functions, and which variables are known. -/
structure Cfg where
  P : Program
  ext : FuncId → Option (List V → Heap → Option (V × Heap))
  gl : Nat → Bool

section
variable (C : Cfg)

def szOf (P : Program) (t : TypeId) : Option Nat := (P.info? t).map (·.size)
def isAg (P : Program) (t : TypeId) : Option Bool := (P.underlying t).map fun | .struct _ | .array _ _ => true | _ => false

/-- A number's, a bool's or a text's own value. -/
def scal : V → Option Value
  | .bool b => some (.bool b)
  | .int k n => some (.int k n)
  | .str s => some (.string s)
  | _ => none
def ofScal : Value → Option V
  | .bool b => some (.bool b)
  | .int k n => some (.int k n)
  | .string s => some (.str s)
  | _ => none
def pureV : Sem Value → Option V
  | .pure v => ofScal v
  | _ => none

def opd (env : Env) : Operand → Option V
  | .tmp t => env[t]?
  | .const v => ofCon v
  | .global g => if C.gl g then some (.ptr g 0) else none
  | .func f => some (.func (.func f) [] [])

def opds (env : Env) : List Operand → Option (List V)
  | [] => some []
  | x :: xs => do some ((← opd C env x) :: (← opds env xs))

def isCon : Operand → Bool
  | .const _ => true
  | _ => false

def partV (P : Program) (t : TypeId) (cs : List V) (off : Nat) : Option V :=
  match isAg P t with
  | some true => do
    let n ← szOf P t
    if off + n ≤ cs.length then some (.agg ((cs.drop off).take n)) else none
  | some false => cs[off]?
  | none => none

/-- Two values held against each other: no error in it. -/
def eqV (x y : V) : Option Bool :=
  match x, y with
  | .bool a, .bool b => some (a == b)
  | .nilp, .nilp => some true
  | .nilp, .ptr _ _ | .ptr _ _, .nilp => some false
  | .nils, .nils => some true
  | .nils, .sl .. | .sl .., .nils => some false
  | .nilFunc, .nilFunc => some true
  | .nilFunc, .func .. | .func .., .nilFunc => some false
  | .nilIface, .iface .. | .iface .., .nilIface => some false
  | .nilIface, .nilIface => some true
  | _, _ => none

/-- Does a type fit what eqV answers? -/
def eqFits (P : Program) (t : TypeId) (x : V) : Bool :=
  match P.underlying t, x with
  | some .bool, .bool _ => true
  | some (.pointer _), .nilp | some (.pointer _), .ptr .. => true
  | some (.slice _), .nils | some (.slice _), .sl .. => true
  | some (.func ..), .nilFunc | some (.func ..), .func .. => true
  | some (.interface _), .nilIface | some (.interface _), .iface .. => true
  | _, _ => false

def bothNil : V → V → Bool
  | .nilIface, .nilIface => true
  | _, _ => false
def eqvB (P : Program) (cst : Bool) (t : TypeId) (x y : V) : Option Bool := if eqFits P t x && eqFits P t y && (cst || !bothNil x y) then eqV x y else none

/-- Two numbers, bools or texts, in cells of a type. -/
def scEq (P : Program) (t : TypeId) (x y : V) : Option Bool :=
  match P.underlying t, x, y with
  | some .bool, .bool a, .bool b => some (a == b)
  | some (.int _), .int k a, .int k' b => if k = k' then some (a == b) else none
  | some .string, .str a, .str b => some (a == b)
  | _, _, _ => none
def fldEq (P : Program) (xs ys : List V) : List Field → Option Bool
  | [] => some true
  | f :: fs =>
    if f.name ≠ "_" then
      match xs[f.offset]?, ys[f.offset]? with
      | some x, some y => match scEq P f.type x y with
        | some true => fldEq P xs ys fs
        | r => r
      | _, _ => none
    else fldEq P xs ys fs
/-- Two structs of numbers, bools, texts. -/
def aggEq (P : Program) (t : TypeId) (xs ys : List V) : Option Bool :=
  match P.underlying t with
  | some (.struct fields) => if P.stoodInHeld t || P.eqGuardType P.depth t then none else fldEq P xs ys fields.toList
  | _ => none

def evBin (P : Program) (op : BinOp) (cst : Bool) (t : TypeId) (x y : V) : Option V :=
  match scal x, scal y with
  | some (.int k a), some (.int k' b) => pureV (binOp op t (.int k a) (.int k' b))
  | some (.string a), some (.string b) => pureV (binOp op t (.string a) (.string b))
  | _, _ =>
    match x, y with
    | .agg xs, .agg ys => match op with
      | .eql => (aggEq P t xs ys).map .bool
      | .neq => (aggEq P t xs ys).map fun b => .bool (!b)
      | _ => none
    | _, _ => match op with
      | .eql => (eqvB P cst t x y).map .bool
      | .neq => (eqvB P cst t x y).map fun b => .bool (!b)
      | _ => none

def evConv (P : Program) (src dst : TypeId) (x : V) : Option V :=
  match P.underlying src, P.underlying dst, x with
  | some _, some (.int k), .int _ n => some (.int k (k.wrap n))
  | some _, some .string, .int _ n => some (.str (Utf8.encode n))
  | some _, some .string, .str s => some (.str s)
  | _, _, _ => none

/-- A slice expression's bounds: low, high. -/
def bnd (env : Env) (dflt : Nat) : Option Operand → Option Nat
  | none => some dflt
  | some x => match opd C env x with
    | some (.int _ i) => if 0 ≤ i then some i.toNat else none
    | _ => none

def bndO (env : Env) : Option Operand → Option (Option Nat)
  | none => some none
  | some x => (bnd C env 0 (some x)).map some

def slStr (env : Env) (s : ByteArray) (lo hi : Option Operand) : Option V := do
  let h ← bnd C env s.size hi
  let l ← bnd C env 0 lo
  if h ≤ s.size ∧ l ≤ h then some (.str (s.extract l h)) else none

/-- A slice of a slice: no third index but where the capacity comes to be known by it. -/
def slSl (H : Heap) (size : Nat) (id off len sz : Nat) (cap : Cap) (l h : Nat) (mx : Option Nat) : Option V := do
  let o ← H.gt id
  if sz = size ∧ 0 < size ∧ l ≤ h then
    match cap, mx with
    | .ex c, none => if h ≤ c then some (.sl id (if c = l then off else off + l * size) (h - l) sz (.ex (c - l))) else none
    | .ex c, some m => if h ≤ m ∧ m ≤ c then some (.sl id (if m = l then off else off + l * size) (h - l) sz (.ex (m - l))) else none
    | .full, none =>
      if h ≤ len ∨ off + h * size ≤ o.cells.length then
        if l = 0 then some (.sl id off h sz .full)
        else if l < h then some (.sl id (off + l * size) (h - l) sz .full)
        else some (.sl id off 0 sz (.tail l))
      else none
    | .full, some m => if h ≤ m ∧ (m ≤ len ∨ off + m * size ≤ o.cells.length) then some (.sl id (if m = l then off else off + l * size) (h - l) sz (.ex (m - l))) else none
    | .tail k, none => if h = 0 then some (.sl id off 0 sz (.tail k)) else none
    | .tail _, _ => none
  else none

def evSlice (env : Env) (H : Heap) (t : TypeId) (x : V) (lo hi mx : Option Operand) : Option V :=
  match C.P.underlying t, x with
  | some .string, .str s => if mx.isNone then slStr C env s lo hi else none
  | some (.slice elem), .sl id off len sz cap => do
    let size ← szOf C.P elem
    let h ← bnd C env len hi
    let l ← bnd C env 0 lo
    let m ← bndO C env mx
    if m.isSome && hi.isNone then none else
    slSl H size id off len sz cap l h m
  | some (.slice elem), .nils => do
    let _ ← szOf C.P elem
    let h ← bnd C env 0 hi
    let l ← bnd C env 0 lo
    if h = 0 ∧ l = 0 ∧ mx.isNone then some .nils else none
  | some (.array n elem), .ptr id off => do
    let size ← szOf C.P elem
    let h ← bnd C env n hi
    let l ← bnd C env 0 lo
    let _ ← H.rd id off (n * size)
    if mx.isNone ∧ 0 < size ∧ l ≤ h ∧ h ≤ n then some (.sl id (if n = l then off else off + l * size) (h - l) size (.ex (n - l))) else none
  | _, _ => none

/-- What a type's zero is. -/
def zeroOf (P : Program) (t : TypeId) : Option V := do ofCon (← (← P.info? t).zero)

/-- Where a struct's fields or an array's elements lie, and how large they are. -/
def placesOf (P : Program) (t : TypeId) : Option (Nat → Option (Nat × Nat)) :=
  match P.underlying t with
  | some (.struct fs) => (fs.toList.mapM fun f => (szOf P f.type).map fun n => (f.offset, n)).map fun l => fun i => l[i]?
  | some (.array _ e) => (szOf P e).map fun size => fun i => some (i * size, size)
  | _ => none

/-- Operations that look at no memory. -/
def evP (env : Env) (o : Oper) : Option V :=
  match o.op with
  | .move x | .assign x => opd C env x
  | .pick c a b => do
    let .bool t ← opd C env c | none
    let x ← opd C env a
    let y ← opd C env b
    some (if t then x else y)
  | .nilCheck x => do
    match ← opd C env x with
    | .ptr id off => some (.ptr id off)
    | .iface t v => some (.iface t v)
    | _ => none
  | .binOp op t x y _ => do evBin C.P op (isCon x || isCon y) t (← opd C env x) (← opd C env y)
  | .unOp op _ x => do pureV (Op.unary op (← scal (← opd C env x)))
  | .convert src dst x => do evConv C.P src dst (← opd C env x)
  | .makeInterface t x =>
    match C.P.underlying t with
    | some (.interface _) | none => none
    | _ => do some (.iface t (← opd C env x))
  | .makeFunc fn a b => do some (.func fn (← opds C env a.toList) (← opds C env b.toList))
  | .fieldAddr s x f => do
    let .struct fs ← C.P.underlying s | none
    let fd ← fs[f]?
    let n ← szOf C.P fd.type
    let .ptr id off ← opd C env x | none
    if n = 0 then none else some (.ptr id (off + fd.offset))
  | .field s x f => do
    let .struct fs ← C.P.underlying s | none
    let fd ← fs[f]?
    let .agg cs ← opd C env x | none
    partV C.P fd.type cs fd.offset
  | .indexAddr t x i => do
    let .int _ n ← opd C env i | none
    match ← C.P.underlying t, ← opd C env x with
    | .slice e, .sl id off len _ _ => do
      let size ← szOf C.P e
      if 0 ≤ n ∧ n < len then some (.ptr id (off + n.toNat * size)) else none
    | .array len e, .ptr id off => do
      let size ← szOf C.P e
      if 0 ≤ n ∧ n < len then some (.ptr id (off + n.toNat * size)) else none
    | _, _ => none
  | .index t x i => do
    let .int _ n ← opd C env i | none
    match ← C.P.underlying t, ← opd C env x with
    | .array len e, .agg cs => do
      let size ← szOf C.P e
      if 0 ≤ n ∧ n < len then partV C.P e cs (n.toNat * size) else none
    | .string, .str s => if 0 ≤ n then (s[n.toNat]?).map fun b => .int .u8 b.toNat else none
    | _, _ => none
  | .extract t i => do
    let .tuple vs ← opd C env t | none
    vs[i]?
  | .build t parts => do
    let z ← zeroOf C.P t
    let vs ← opds C env (parts.toList.map (·.2))
    let places ← placesOf C.P t
    if z.one then none else (fillV places z.cells ((parts.toList.map (·.1)).zip vs)).map .agg
  | .call ⟨.builtin .len, args, ts⟩ => do
    let t ← ts[0]?
    let x ← args[0]?
    match ← C.P.underlying t, ← opd C env x with
    | .string, .str s => some (.int .i64 s.size)
    | .slice _, .nils => some (.int .i64 0)
    | .slice _, .sl _ _ n _ _ => some (.int .i64 n)
    | .array n _, _ => some (.int .i64 n)
    | _, _ => none
  | .call ⟨.builtin .cap, args, ts⟩ => do
    let t ← ts[0]?
    let x ← args[0]?
    match ← C.P.underlying t, ← opd C env x with
    | .slice _, .nils => some (.int .i64 0)
    | .slice _, .sl _ _ _ _ (.ex c) => some (.int .i64 c)
    | .array n _, _ => some (.int .i64 n)
    | _, _ => none
  | .call ⟨.builtin .min, args, _⟩ => do
    let vs ← opds C env args.toList
    let cs ← vs.mapM scal
    pureV (Builtin.min_ #[] 0 cs.toArray)
  | .call ⟨.builtin .max, args, _⟩ => do
    let vs ← opds C env args.toList
    let cs ← vs.mapM scal
    pureV (Builtin.max_ #[] 0 cs.toArray)
  | _ => none
  where
  fillV (place : Nat → Option (Nat × Nat)) (cells : List V) : List (Nat × V) → Option (List V)
    | [] => some cells
    | (i, v) :: rest =>
      match place i with
      | none => none
      | some (off, size) =>
        if v.cells.length ≠ size || off + v.cells.length > cells.length then none
        else fillV place (over cells off v.cells) rest

/-- Bytes of a slice. -/
def bytesOf : List V → Option (List UInt8)
  | [] => some []
  | .int .u8 n :: r => do some (UInt8.ofNat n.toNat :: (← bytesOf r))
  | _ => none

/-- Operations that look at memory. -/
def evL (env : Env) (o : Oper) (H : Heap) : Option V :=
  match o.op with
  | .load t x => do
    let .ptr id off ← opd C env x | none
    match ← isAg C.P t with
    | true => do some (.agg (← H.rd id off (← szOf C.P t)))
    | false => do (← H.rd id off 1)[0]?
  | .slice t x lo hi mx => do evSlice C env H t (← opd C env x) lo hi mx
  | .convert src dst x => do
    let .slice e ← C.P.underlying src | none
    let .string ← C.P.underlying dst | none
    let .int .u8 ← C.P.underlying e | none
    match ← opd C env x with
    | .nils => some (.str .empty)
    | .sl id off len _ _ => do some (.str ⟨(← bytesOf (← H.rd id off len)).toArray⟩)
    | _ => none
  | _ => none

def zerosV (zero : List V) (n : Nat) : List V := (List.replicate n zero).flatten

/-- Operations that make an object: what they answer, the object's cells. -/
def evN (env : Env) (o : Oper) (id : Nat) : Option (V × List V) :=
  match o.op with
  | .alloc e => do
    let z ← zeroOf C.P e
    some (.ptr id 0, z.cells)
  | .box _ x => do
    let v ← opd C env x
    some (.ptr id 0, v.cells)
  | .buildSlice t len parts => do
    let .slice e ← C.P.underlying t | none
    let size ← szOf C.P e
    let z ← zeroOf C.P e
    let vs ← opds C env (parts.toList.map (·.2))
    if 0 < size ∧ len * size ≤ 2 ^ 24 ∧ z.cells.length = size then
      let cells ← evP.fillV (fun i => some (i * size, size)) (zerosV z.cells len) ((parts.toList.map (·.1)).zip vs)
      some (.sl id 0 len size (.ex len), cells)
    else none
  | .makeSlice t l c => do
    let .slice e ← C.P.underlying t | none
    let info ← C.P.info? e
    let z ← zeroOf C.P e
    let .int _ l ← opd C env l | none
    let .int _ c ← opd C env c | none
    if 0 < info.size ∧ z.cells.length = info.size ∧ 0 ≤ l ∧ l ≤ c ∧ c < 2 ^ 62 ∧ info.bytes * c ≤ 2 ^ 48 then
      some (.sl id 0 l.toNat info.size (.ex c.toNat), zerosV z.cells c.toNat)
    else none
  | .makeChan t s => do
    let .chan _ e ← C.P.underlying t | none
    let info ← C.P.info? e
    let .int _ n ← opd C env s | none
    if 0 ≤ n ∧ n ≤ 2 ^ 20 ∧ info.bytes * n ≤ 2 ^ 47 then some (.chan id, [.chq n.toNat []]) else none
  | _ => none

/-- The cells that append takes. -/
def srcV (H : Heap) (sz : Nat) : V → Option (List V)
  | .nils => some []
  | .sl id off len sz' _ => if sz' = sz then H.rd id off (len * sz) else none
  | .str s => if sz = 1 then some (s.data.toList.map fun b => .int .u8 b.toNat) else none
  | _ => none
def lenV : V → Nat
  | .sl _ _ len _ _ => len
  | .str s => s.size
  | _ => 0

/-- A new object. -/
def Heap.new (H : Heap) (cells : List V) : Nat × Heap := (H.next, ⟨H.t.set H.next (some ⟨cells, false⟩), H.next + 1⟩)

def evAppend (H : Heap) (sz bytes : Nat) (s x : V) : Option (V × Heap) := do
  let xs ← srcV H sz x
  if lenV x = 0 then (match s with | .nils | .sl .. => some (s, H) | _ => none) else
  if xs.all V.one = false then none else
  match s with
  | .nils => if lenV x * bytes ≤ 2 ^ 47 then some (.sl H.next 0 (lenV x) sz .full, (H.new xs).2) else none
  | .sl id off len sz' cap =>
    if sz' ≠ sz then none else
    match cap with
    | .ex c =>
      if c < len + lenV x then do
        let old ← H.rd id off (len * sz)
        if (len + lenV x) * bytes ≤ 2 ^ 47 then some (.sl H.next 0 (len + lenV x) sz .full, (H.new (old ++ xs)).2) else none
      else do
        let H' ← H.wr id (off + len * sz) xs
        some (.sl id off (len + lenV x) sz cap, H')
    | .full => do
      let o ← H.gt id
      if off + len * sz = o.cells.length then
        if o.ro = false ∧ (len + lenV x) * bytes ≤ 2 ^ 47 then some (.sl H.next 0 (len + lenV x) sz .full, ((H.set id none).new (o.cells.drop off ++ xs)).2) else none
      else do
        let H' ← H.wr id (off + len * sz) xs
        some (.sl id off (len + lenV x) sz cap, H')
    | .tail l => do
      let o ← H.gt id
      if off + l * sz = o.cells.length ∧ o.ro = false ∧ len = 0 ∧ lenV x * bytes ≤ 2 ^ 47 then some (.sl H.next 0 (lenV x) sz .full, ((H.set id none).new xs).2) else none
  | _ => none

/-- The method that a value's type has under a name. -/
def methodOf (P : Program) (t : TypeId) (name : String) : Option FuncId := do
  let info ← P.info? t
  let m ← info.methods.find? (·.name == name)
  let .pointer _ ← P.underlying t | none
  match m.func, m.path.toList with
  | some (f, true), [] => some f
  | _, _ => none

/-- Operations that act. -/
def evE (call : FuncId → List V → Heap → Option (V × Heap)) (env : Env) (o : Oper) (H : Heap) : Option (V × Heap) :=
  match o.op with
  | .store t x v => do
    let .ptr id off ← opd C env x | none
    let v ← opd C env v
    let n ← szOf C.P t
    if v.cells.length = n then
      let H' ← H.wr id off v.cells
      some (V.un, H')
    else none
  | .call ⟨.value f, args, _⟩ => do
    let .func (.func f) a b ← opd C env f | none
    let vs ← opds C env args.toList
    call f (a ++ vs ++ b) H
  | .call ⟨.invoke r name, args, _⟩ => do
    let .iface t v ← opd C env r | none
    let vs ← opds C env args.toList
    call (← methodOf C.P t name) (v :: vs) H
  | .call ⟨.builtin .append, args, ts⟩ => do
    let .slice e ← C.P.underlying (← ts[0]?) | none
    let info ← C.P.info? e
    let z ← zeroOf C.P e
    let s ← opd C env (← args[0]?)
    let x ← opd C env (← args[1]?)
    match ← C.P.underlying (← ts[1]?) with
    | .int _ => none
    | _ => if (args.size = 2 ∧ ts.size = 2) ∧ 0 < info.size ∧ 0 < info.bytes ∧ z.cells.length = info.size then evAppend H info.size info.bytes s x else none
  | .call ⟨.builtin .clear, args, ts⟩ => do
    let .slice e ← C.P.underlying (← ts[0]?) | none
    let z ← zeroOf C.P e
    match ← opd C env (← args[0]?) with
    | .sl id off len sz _ =>
      if z.cells.length = sz ∧ 0 < sz then do
        let H' ← H.wr id off (zerosV z.cells len)
        some (V.un, H')
      else none
    | .nils => some (V.un, H)
    | _ => none
  | .call ⟨.builtin .copy, args, ts⟩ => do
    let .slice e ← C.P.underlying (← ts[0]?) | none
    let sz ← szOf C.P e
    match ← opd C env (← args[0]?), ← opd C env (← args[1]?) with
    | .sl id off len sz' _, x =>
      if sz' = sz ∧ 0 < sz then do
        let xs ← srcV H sz x
        let n := min (lenV x) len
        let H' ← H.wr id off (xs.take (n * sz))
        some (.int .i64 n, H')
      else none
    | _, _ => none
  | _ => none

inductive Kd where
  | p | l | n | e
  deriving DecidableEq
def kind (P : Program) (o : Oper) : Kd :=
  match o.op with
  | .load .. | .slice .. => .l
  | .convert src _ _ => match P.underlying src with
    | some (.slice _) => .l
    | _ => .p
  | .alloc _ | .box .. | .buildSlice .. | .makeSlice .. | .makeChan .. => .n
  | .store .. => .e
  | .call ⟨.value _, _, _⟩ | .call ⟨.invoke .., _, _⟩ => .e
  | .call ⟨.builtin b, _, _⟩ => match b with
    | .append | .clear | .copy => .e
    | _ => .p
  | _ => .p

def Env.put (env : Env) (dst : Option Tmp) (v : V) : Env :=
  match dst with
  | some d => env.set d v
  | none => env

/-- Is an operation to be carried out? -/
def wants (ops : Array Oper) (env : Env) (o : Oper) : Bool :=
  match o.guard with
  | none => true
  | some (j, b) =>
    match ((ops[j]?).bind (·.dst)).bind (env[·]?) with
    | some (.bool c) => c == b
    | _ => false

/-- One operation; id: the number of an object that it makes. -/
def evOp (call : FuncId → List V → Heap → Option (V × Heap)) (env : Env) (o : Oper) (H : Heap) : Option (V × Heap) :=
  match kind C.P o with
  | .p => (evP C env o).map fun v => (v, H)
  | .l => (evL C env o H).map fun v => (v, H)
  | .n => (evN C env o H.next).map fun (v, cells) => (v, (H.new cells).2)
  | .e => evE C call env o H

/-- A region whose order is fixed. -/
def evSeq (call : FuncId → List V → Heap → Option (V × Heap)) (ops : Array Oper) : List Oper → Env → Heap → Option (Env × Heap)
  | [], env, H => some (env, H)
  | o :: rest, env, H =>
    if wants ops env o then
      match evOp C call env o H with
      | some (v, H') => evSeq call ops rest (env.put o.dst v) H'
      | none => none
    else evSeq call ops rest (env.put o.dst V.un) H

/-! ### A region whose order is open -/

def edges (o : Oper) : List Nat := o.after.toList.filterMap fun e => if Region.binds .any e then some e.on else none
/-- What comes ahead of each operation, as bits. -/
def masks : List Oper → List Nat → List Nat
  | [], acc => acc
  | o :: rest, acc => masks rest (acc ++ [(edges o).foldl (fun m j => m ||| acc.getD j 0 ||| 2 ^ j) 0])
def has (ms : List Nat) (i j : Nat) : Bool := (ms.getD i 0).testBit j
def isE (P : Program) (ops : List Oper) (i : Nat) : Bool := (ops[i]?).any fun o => kind P o == .e
/-- An order in which nothing is done ahead of an act but what must be. -/
def lazyGo (P : Program) (ops : List Oper) (ms : List Nat) : List Nat → List Nat → List Nat
  | [], acc => acc ++ (List.range ops.length).filter (fun j => !acc.contains j)
  | i :: rest, acc =>
    if isE P ops i then lazyGo P ops ms rest (acc ++ (List.range ops.length).filter (fun j => has ms i j && !acc.contains j) ++ [i])
    else lazyGo P ops ms rest acc
def lazyOrd (P : Program) (ops : List Oper) : List Nat := lazyGo P ops (masks ops []) (List.range ops.length) []

def tmpsOf (ops : List Oper) (o : Oper) : List Tmp :=
  (o.op.operands.toList.filterMap fun | .tmp t => some t | _ => none) ++
  (match o.guard with
   | some (g, _) => ((ops[g]?).bind (·.dst)).toList
   | none => [])

/-- An order of a region's operations that fits: what comes ahead of an operation is ahead of it; ahead of an act is nothing but what must be. -/
def okOrd (P : Program) (ops : List Oper) (ms : List Nat) : List Nat → List Nat → Bool
  | [], acc => acc.length == ops.length
  | i :: rest, acc =>
    (match ops[i]? with
     | none => false
     | some o =>
       !acc.contains i && (edges o).all (acc.contains ·) && (!(kind P o == .e) || acc.all (fun j => has ms i j))) && okOrd P ops ms rest (acc ++ [i])
def okDraw (P : Program) (ops : List Oper) : Bool :=
  let ms := masks ops []
  ((List.range ops.length).all fun i => match ops[i]? with
    | none => false
    | some o =>
      (edges o).all (· < i) &&
      ((List.range ops.length).all fun j => match ops[j]? with
        | none => false
        | some o' =>
          (i == j || o.dst.isNone || o.dst != o'.dst) &&
          (match o'.dst with
           | some d => !(tmpsOf ops o).contains d || has ms i j || has ms j i
           | none => true)) &&
      (match o.guard with | none => true | some (g, _) => has ms i g)) &&
  okOrd P ops ms (lazyOrd P ops) [] && (List.range ops.length).all (fun i => (lazyOrd P ops).contains i)

/-- Where the one order stands: the heap behind the last act, those ahead of each act (with the act's number), the frame, the heap. -/
structure DS where
  h0 : Heap
  st : List (Nat × Heap)
  env : Env
  H : Heap

/-- One operation of the order: what comes of it, its value, its object's cells. -/
def stepD (call : FuncId → List V → Heap → Option (V × Heap)) (ops : Array Oper) (ms : List Nat) (base i : Nat) (s : DS) : Option (DS × V × List V) :=
  match ops[i]? with
  | none => none
  | some o =>
    if wants ops s.env o then
      match kind C.P o with
      | .p => match evP C s.env o with
        | some v => some (⟨s.h0, s.st, s.env.put o.dst v, s.H⟩, v, [])
        | none => none
      | .l => match evL C s.env o s.h0 with
        | some v =>
          if s.st.all (fun x => has ms i x.1 || (match evL C s.env o x.2 with | some v' => V.same v' v | none => false)) then
            some (⟨s.h0, s.st, s.env.put o.dst v, s.H⟩, v, [])
          else none
        | none => none
      | .n => match evN C s.env o (base + i) with
        | some (v, cells) => some (⟨s.h0, s.st, s.env.put o.dst v, s.H.set (base + i) (some ⟨cells, false⟩)⟩, v, cells)
        | none => none
      | .e => match evE C call s.env o s.H with
        | some (v, H') => some (⟨H', (i, s.h0) :: s.st, s.env.put o.dst v, H'⟩, v, [])
        | none => none
    else
      match kind C.P o with
      | .e => some (⟨s.H, (i, s.h0) :: s.st, s.env.put o.dst V.un, s.H⟩, V.un, [])
      | _ => some (⟨s.h0, s.st, s.env.put o.dst V.un, s.H⟩, V.un, [])

def runD (call : FuncId → List V → Heap → Option (V × Heap)) (ops : Array Oper) (ms : List Nat) (base : Nat) : List Nat → DS → Option DS
  | [], s => some s
  | i :: rest, s => match stepD C call ops ms base i s with
    | some (s', _, _) => runD call ops ms base rest s'
    | none => none

def dstsIn (ops : List Oper) (n : Nat) : Bool := ops.all fun o => match o.dst with | some d => decide (d < n) | none => true

def evDraw (call : FuncId → List V → Heap → Option (V × Heap)) (ops : Array Oper) (env : Env) (H : Heap) : Option (Env × Heap) :=
  if okDraw C.P ops.toList && dstsIn ops.toList env.length then
    (runD C call ops (masks ops.toList []) H.next (lazyOrd C.P ops.toList) ⟨H.res ops.size, [], env, H.res ops.size⟩).map fun s => (s.env, s.H)
  else none

inductive Out where
  | normal
  | exit (id : Nat)
  | ret

def evLoop (body : Env → Heap → Option (Out × Env × Heap)) : Nat → Env → Heap → Option (Out × Env × Heap)
  | 0, _, _ => none
  | n + 1, env, H =>
    match body env H with
    | some (.normal, env', H') => evLoop body n env' H'
    | r => r

/-- A select that stands at a region's head. -/
def selAt (ops : Array Oper) : Option Oper :=
  match ops[0]? with
  | some o => match o.op, o.guard with
    | .select .., none => some o
    | _, _ => none
  | none => none

/-- A select of one case, with a default. -/
def evSel (env : Env) (o : Oper) (H : Heap) : Option (V × Heap) :=
  match o.op with
  | .select ⟨[c]⟩ false => do
    let .chan id ← opd C env c.chan | none
    let z ← zeroOf C.P c.elem
    match H.get id with
    | some ⟨[.chq cap buf], _⟩ =>
      match c.send with
      | none => match buf with
        | [] => some (.tuple [.int .i64 (-1), .bool false, z], H)
        | v :: rest => some (.tuple [.int .i64 0, .bool true, v], H.set id (some ⟨[.chq cap rest], false⟩))
      | some x => do
        let v ← opd C env x
        if buf.length < cap then some (.tuple [.int .i64 0, .bool false], H.set id (some ⟨[.chq cap (buf ++ [v])], false⟩))
        else some (.tuple [.int .i64 (-1), .bool false], H)
    | _ => none
  | _ => none

def evCode (call : FuncId → List V → Heap → Option (V × Heap)) (n : Nat) : Code → Env → Heap → Option (Out × Env × Heap)
  | .skip, env, H => some (.normal, env, H)
  | .label _, env, H => some (.normal, env, H)
  | .region _ ops draw, env, H =>
    if draw then (evDraw C call ops env H).map fun (e, h) => (.normal, e, h)
    else match selAt ops with
    | none => (evSeq C call ops ops.toList env H).map fun (e, h) => (.normal, e, h)
    | some o => match evSel C env o H with
      | some (v, H1) => (evSeq C call ops ops.toList.tail (env.put o.dst v) H1).map fun (e, h) => (.normal, e, h)
      | none => none
  | .seq a b, env, H =>
    match evCode call n a env H with
    | some (.normal, env', H') => evCode call n b env' H'
    | r => r
  | .cond c a b, env, H =>
    match opd C env c with
    | some (.bool t) => if t then evCode call n a env H else evCode call n b env H
    | _ => none
  | .block id b, env, H =>
    match evCode call n b env H with
    | some (.exit i, env', H') => if i = id then some (.normal, env', H') else some (.exit i, env', H')
    | r => r
  | .loop b, env, H => evLoop (evCode call n b) n env H
  | .exit id, env, H => some (.exit id, env, H)
  | .ret, env, H => some (.ret, env, H)
  | _, _, _ => none

/-- What a function hands back. -/
def evRes (H : Heap) (env : Env) : List ResultVar → Option (List V)
  | [] => some []
  | .tmp t :: rest => do some ((← env[t]?) :: (← evRes H env rest))
  | .cell a t :: rest => do
    let .ptr id off ← env[a]? | none
    let v ← match ← isAg C.P t with
      | true => (do some (.agg (← H.rd id off (← szOf C.P t))) : Option V)
      | false => do (← H.rd id off 1)[0]?
    some (v :: (← evRes H env rest))
def tup : List V → V
  | [v] => v
  | vs => .tuple vs

def evBody (call : FuncId → List V → Heap → Option (V × Heap)) (n : Nat) (fn : Func) (args : List V) (H : Heap) : Option (V × Heap) :=
  match fn.body with
  | none => none
  | some c =>
    match evCode C call n c (args ++ List.replicate (fn.ntmps - args.length) V.un) H with
    | some (.normal, env, H') | some (.ret, env, H') => (evRes C H' env fn.results.toList).map fun vs => (tup vs, H')
    | _ => none

/-- A call. -/
def ev : Nat → FuncId → List V → Heap → Option (V × Heap)
  | 0, _, _, _ => none
  | n + 1, f, args, H =>
    match C.ext f with
    | some g => g args H
    | none =>
      match C.P.funcs[f]? with
      | none => none
      | some fn => evBody C (ev n) n fn args H
end
end Go.Ab
