/-
  THE ABSTRACT MACHINE, its operations, its control, its calls.
-/
import Derived.Test.YtifiajbjfoigcaaGreatAbs
namespace Go.Abs
open Go

/-! ### Operations on memory -/

def isStrD : Option TypeDesc → Bool | some .string => true | _ => false
def isU8D : Option TypeDesc → Bool | some (.int .u8) => true | _ => false

/-- What is to be appended: how many elements, and their cells. -/
def newsOf (s : St) (es : Nat) (x : Value) : Option (Nat × List Value) :=
  match x with
  | .slice none 0 0 => some (0, [])
  | .slice (some ⟨id, off, none⟩) n _ =>
    if n = 0 then some (0, []) else
    if id < s.heap.size then (window (s.heap.blk id).cells off (n * es)).map fun l => (n, l) else none
  | .string b => if es = 1 then some (b.size, byteCells b) else none
  | _ => none

def roomMax : Nat := 2 ^ 44

def srcOk (d : Option TypeDesc) (y : Value) : Bool :=
  match d, y with
  | some (.slice _), .slice _ _ _ => true
  | some .string, .string _ => true
  | _, _ => false

def append (P : Program) (s : St) (t tx : TypeId) (x y : Value) : Option (Value × Heap) :=
  match TI P t with
  | some ⟨_, _, _, .slice _ es bytes⟩ =>
    if srcOk (P.underlying tx) y = false then none else
    match newsOf s es y with
    | some (n, news) =>
      match x with
      | .slice none 0 0 =>
        if n = 0 then some (x, s.heap) else
        if n * (bytes + es + 1) ≤ roomMax then some (.slice (some ⟨s.heap.size, 0, none⟩) n 0, s.heap.push news es) else none
      | .slice (some ⟨id, off, none⟩) len c =>
        if n = 0 then some (x, s.heap) else
        if (len + n) * (bytes + es + 1) ≤ roomMax ∧ id < s.heap.size ∧ (s.heap.blk id).es = es then
          if len = 0 then
            if c = 1 then some (.slice (some ⟨s.heap.size, 0, none⟩) n 0, s.heap.push news es)
            else some (.slice (some ⟨s.heap.size, 0, none⟩) n 0, s.heap.grow id off 0 es news)
          else
            match window (s.heap.blk id).cells off (len * es) with
            | some old =>
              if c ≠ 0 ∧ c ≤ len + n then some (.slice (some ⟨s.heap.size, 0, none⟩) (len + n) 0, s.heap.push (old ++ news) es)
              else some (.slice (some ⟨s.heap.size, 0, none⟩) (len + n) 0, s.heap.grow id off (len * es) es news)
            | none => none
        else none
      | _ => none
    | none => none
  | _ => none

def sliceLen : Value → Option Nat
  | .slice none 0 0 => some 0
  | .slice (some ⟨_, _, none⟩) n _ => some n
  | _ => none

def copy (P : Program) (s : St) (t : TypeId) (x y : Value) : Option (Value × Heap) :=
  match TI P t, sliceLen x, sliceLen y with
  | some ⟨_, _, _, .slice _ es _⟩, some len, some n =>
    if min n len = 0 then some (.int .i64 0, s.heap) else
    match x, y with
    | .slice (some ⟨id, off, _⟩) _ _, .slice (some ⟨id2, off2, _⟩) _ _ =>
      if id < s.heap.size ∧ id2 < s.heap.size ∧ 0 < es ∧ off + min n len * es ≤ (s.heap.blk id).cells.length then
        (window (s.heap.blk id2).cells off2 (min n len * es)).map fun l => (.int .i64 (min n len : Nat), s.heap.write id off l)
      else none
    | _, _ => none
  | _, _, _ => none

def asInt : Value → Option Int
  | .int _ n => some n
  | _ => none

def makeSlice (P : Program) (s : St) (t : TypeId) (len cap : Value) : Option (Value × Heap) :=
  match TI P t, len, cap with
  | some ⟨_, _, _, .slice e es bytes⟩, .int .i64 l, .int .i64 c =>
    match TI P e with
    | some ti =>
      if 0 ≤ l ∧ l ≤ c ∧ 0 < es ∧ c.toNat * (bytes + es + 1) ≤ roomMax then
        some (.slice (some ⟨s.heap.size, 0, none⟩) l.toNat 0, s.heap.push (List.replicate l.toNat ti.zero).flatten es)
      else none
    | none => none
  | _, _, _ => none

/-- Are these the parts number k, k + 1 and so on, each with so many cells? Their cells. -/
def inOrder (es : Nat) : Nat → List (Nat × Value) → Option (List Value)
  | _, [] => some []
  | k, (i, v) :: rest =>
    if i = k ∧ v.cells.size = es ∧ storable v then (inOrder es (k + 1) rest).map (v.cells.toList ++ ·) else none

def buildSlice (P : Program) (s : St) (t : TypeId) (len : Nat) (parts : List (Nat × Value)) : Option (Value × Heap) :=
  match TI P t with
  | some ⟨_, _, _, .slice _ es bytes⟩ =>
    if parts.length = len ∧ 0 < es ∧ len * (bytes + es + 1) ≤ 2 ^ 20 then
      (inOrder es 0 parts).map fun cells => (.slice (some ⟨s.heap.size, 0, none⟩) len 0, s.heap.push cells es)
    else none
  | _ => none

def fillL (fs : List (Nat × Nat)) : List Value → List (Nat × Value) → Option (List Value)
  | cells, [] => some cells
  | cells, (i, v) :: rest =>
    match fs[i]? with
    | some (off, size) =>
      if v.cells.size = size ∧ off + size ≤ cells.length ∧ storable v then fillL fs (splice cells off v.cells.toList) rest else none
    | none => none

def build (P : Program) (t : TypeId) (parts : List (Nat × Value)) : Option Value :=
  match TI P t with
  | some ⟨_, _, zero, .strct fs⟩ => (fillL fs zero parts).map fun l => .agg l.toArray
  | _ => none

def indexAddr (P : Program) (t : TypeId) (x i : Value) : Option Value :=
  match TI P t, x, i with
  | some ⟨_, _, _, .slice _ es _⟩, .slice (some ⟨id, off, none⟩) len _, .int _ n =>
    if 0 ≤ n ∧ n < len then some (.pointer (some ⟨id, off + n.toNat * es, none⟩)) else none
  | _, _, _ => none

def bound (d : Nat) : Option Value → Option Nat
  | none => some d
  | some (.int _ n) => if 0 ≤ n then some n.toNat else none
  | some _ => none

def slice (P : Program) (H : Heap) (t : TypeId) (x : Value) (lo hi mx : Option Value) : Option Value :=
  match x with
  | .string b =>
    match mx, bound 0 lo, bound b.size hi with
    | none, some l, some h => if l ≤ h ∧ h ≤ b.size ∧ isStrD (P.underlying t) = true then some (.string (b.extract l h)) else none
    | _, _, _ => none
  | .slice none len _ =>
    match TI P t with
    | some ⟨_, _, _, .slice _ _ _⟩ =>
      match mx, bound 0 lo, bound len hi with
      | none, some 0, some 0 => if len = 0 then some (.slice none 0 0) else none
      | _, _, _ => none
    | _ => none
  | .slice (some ⟨id, off, none⟩) len _ =>
    match TI P t with
    | some ⟨_, _, _, .slice _ es _⟩ =>
      if (H.blk id).es = es ∧ id < H.size then
        match bound 0 lo, bound len hi with
        | some l, some h =>
          if l ≤ h ∧ h ≤ len then
            match mx with
            | none => some (.slice (some ⟨id, off + l * es, none⟩) (h - l) 0)
            | some _ =>
              match bound 0 mx with
              | some m => if hi.isSome ∧ h ≤ m ∧ m ≤ len then some (.slice (some ⟨id, off + l * es, none⟩) (h - l) (m - l + 1)) else none
              | none => none
          else none
        | _, _ => none
      else none
    | _ => none
  | _ => none

def fieldAddr (P : Program) (t : TypeId) (x : Value) (f : Nat) : Option Value :=
  match TI P t with
  | some ⟨_, _, _, .strct fs⟩ =>
    match fs[f]? with
    | some (off, size) => if size = 0 then none else atOff x off
    | none => none
  | _ => none

def fieldOf (P : Program) (t : TypeId) (x : Value) (f : Nat) : Option Value :=
  match P.underlying t, x with
  | some (.struct fs), .agg xs =>
    match fs[f]? with
    | some fd => match TI P fd.type with
      | some ti => (window xs.toList fd.offset ti.size).bind (mk ti.agg)
      | none => none
    | none => none
  | _, _ => none

def bytesOf : List Value → Option (List UInt8)
  | [] => some []
  | .int .u8 n :: r => (bytesOf r).map (UInt8.ofNat n.toNat :: ·)
  | _ => none

def convert (P : Program) (s : St) (src dst : TypeId) (x : Value) : Option (Value × Heap) :=
  match P.underlying src, P.underlying dst, x with
  | some _, some (.int k), .int _ n => some (.int k (k.wrap n), s.heap)
  | some (.int _), some .string, .int _ n => some (.string (Utf8.encode n), s.heap)
  | some .string, some .string, .string b => some (.string b, s.heap)
  | some (.slice e), some .string, .slice a len _ =>
    if isU8D (P.underlying e) = true then
      match a with
      | none => some (.string .empty, s.heap)
      | some ⟨id, off, none⟩ =>
        if len = 0 then some (.string .empty, s.heap) else
        if id < s.heap.size then
          match (window (s.heap.blk id).cells off len).bind bytesOf with
          | some l => some (.string ⟨l.toArray⟩, s.heap)
          | none => none
        else none
      | _ => none
    else none
  | _, _, _ => none

def index (P : Program) (t : TypeId) (x i : Value) : Option Value :=
  match P.underlying t, x, i with
  | some .string, .string b, .int _ n =>
    if 0 ≤ n then (b[n.toNat]?).map fun c => .int .u8 c.toNat else none
  | _, _, _ => none

def len (P : Program) (t : TypeId) (x : Value) : Option Value :=
  match P.underlying t, x with
  | some .string, .string b => some (.int .i64 b.size)
  | some (.slice _), .slice _ n _ => some (.int .i64 n)
  | _, _ => none

def minmax (mn : Bool) : Value → List Value → Option Value
  | .int k a, [] => some (.int k a)
  | .int k a, .int k' b :: r => if k = k' then minmax mn (.int k (if mn then (if b < a then b else a) else (if a < b then b else a))) r else none
  | _, _ => none

/-! ### One operation -/

inductive OpR where
  | done (s : St)
  | call (f : FuncId) (args : Array Value)

def val (s : St) (dst : Option Tmp) : Option Value → Option OpR
  | some v => some (.done (s.put dst v))
  | none => none

def valH (s : St) (dst : Option Tmp) : Option (Value × Heap) → Option OpR
  | some (v, H) => some (.done ({ s with heap := H }.put dst v))
  | none => none

def builtin (P : Program) (s : St) (dst : Option Tmp) (b : Builtin) (ts : List TypeId) (args : List Value) : Option OpR :=
  match b, ts, args with
  | .append, [t, tx], [x, y] => valH s dst (append P s t tx x y)
  | .copy, [t, _], [x, y] => valH s dst (copy P s t x y)
  | .len, [t], [x] => val s dst (len P t x)
  | .min, _, x :: l => val s dst (minmax true x l)
  | .max, _, x :: l => val s dst (minmax false x l)
  | _, _, _ => none

def aop (P : Program) (ls : List Nat) (o : Oper) (s : St) : Option OpR :=
  match o.op with
  | .move x | .assign x => val s o.dst (some (s.ev x))
  | .pick c a b => match s.ev c with
    | .bool t => val s o.dst (some (if t then s.ev a else s.ev b))
    | _ => none
  | .alloc t => match TI P t with
    | some ti => some (.done (s.make ls o.dst ti.zero))
    | none => none
  | .box t x => match TI P t with
    | some _ => if storable (s.ev x) then some (.done (s.make ls o.dst (s.ev x).cells.toList)) else none
    | none => none
  | .build t ps => val s o.dst (build P t (ps.toList.map fun p => (p.1, s.ev p.2)))
  | .buildSlice t n ps => valH s o.dst (buildSlice P s t n (ps.toList.map fun p => (p.1, s.ev p.2)))
  | .load t a => match TI P t with
    | some ti => val s o.dst ((s.cellsAt (s.ev a) ti.size).bind (mk ti.agg))
    | none => none
  | .store t a x => match TI P t with
    | some ti => if (s.ev x).cells.size = ti.size ∧ 0 < ti.size ∧ storable (s.ev x) then (s.storeAt (s.ev a) (s.ev x).cells.toList).map fun s' => .done (s'.put o.dst undef) else none
    | none => none
  | .nilCheck x => match nilness (s.ev x) with
    | some false => match s.ev x with
      | .func (.method _) _ _ => none
      | v => val s o.dst (some v)
    | _ => none
  | .binOp op t x y _ => val s o.dst (bin P op t (s.ev x) (s.ev y))
  | .unOp op _ x => val s o.dst (un op (s.ev x))
  | .convert a b x => valH s o.dst (convert P s a b (s.ev x))
  | .makeFunc (.func f) fi ca =>
    if (fi.toList ++ ca.toList).all fun x => !isLoc (s.ev x) then val s o.dst (some (.func (.func f) (fi.map s.ev) (ca.map s.ev))) else none
  | .makeSlice t l c => valH s o.dst (makeSlice P s t (s.ev l) (s.ev c))
  | .slice t x lo hi mx => val s o.dst (slice P s.heap t (s.ev x) (lo.map s.ev) (hi.map s.ev) (mx.map s.ev))
  | .fieldAddr t x f => val s o.dst (fieldAddr P t (s.ev x) f)
  | .field t x f => val s o.dst (fieldOf P t (s.ev x) f)
  | .indexAddr t x i => val s o.dst (indexAddr P t (s.ev x) (s.ev i))
  | .index t x i => val s o.dst (index P t (s.ev x) (s.ev i))
  | .extract t i => match s.ev t with
    | .tuple vs => val s o.dst vs[i]?
    | _ => none
  | .call ⟨.builtin b, args, ts⟩ => builtin P s o.dst b ts.toList (args.toList.map s.ev)
  | .call ⟨.value f, args, _⟩ => match s.ev f with
    | .func (.func g) fi ca =>
      if args.toList.all fun x => !isLoc (s.ev x) then some (.call g (fi ++ args.map s.ev ++ ca)) else none
    | _ => none
  | _ => none

/-! ### Operations in a row -/

abbrev Oracle := FuncId → Array Value → Heap → Option (Value × Heap)

/-- Is the operation wanted, by the flag that its guard is on? -/
def wanted (ops : Array Oper) (o : Oper) (s : St) : Option Bool :=
  match o.guard with
  | none => some true
  | some (j, want) =>
    match ops[j]? with
    | some oj => match oj.dst with
      | some d => if d < s.nt then match s.env d with
        | .bool b => some (b == want)
        | .tuple _ => some false
        | _ => none
        else none
      | none => none
    | none => none

def evOp (P : Program) (C : Oracle) (ls : List Nat) (ops : Array Oper) (o : Oper) (s : St) : Option St :=
  match wanted ops o s with
  | some true => match aop P ls o s with
    | some (.done s') => some s'
    | some (.call f args) => match C f args s.heap with
      | some (v, H) => some ({ s with heap := H }.put o.dst v)
      | none => none
    | none => none
  | some false => some (s.put o.dst undef)
  | none => none

def evOps (P : Program) (C : Oracle) (ls : List Nat) (ops : Array Oper) : List Oper → St → Option St
  | [], s => some s
  | o :: rest, s => match evOp P C ls ops o s with
    | some s' => evOps P C ls ops rest s'
    | none => none

/-! ### Control -/

inductive Res where
  | norm (s : St)
  | exit (id : Nat) (s : St)
  | ret (s : St)

def loopN (body : St → Option Res) : Nat → St → Option Res
  | 0, _ => none
  | n + 1, s => match body s with
    | some (.norm s') => loopN body n s'
    | r => r

/-- What is there stays as it is. -/
def Ext (H H' : Heap) : Prop := H.size ≤ H'.size ∧ ∀ i, i < H.size → H'.blk i = H.blk i

/-! ### A region whose order is drawn -/

/-- Of an operation those that have to come ahead of it, out of what is known of those before it in the text. -/
def maskOf (acc : List Nat) (o : Oper) : Nat := o.after.toList.foldl (fun s e => if Region.binds .any e then s ||| 2 ^ e.on ||| acc.getD e.on 0 else s) 0

/-- Of each operation those that have to come ahead of it. -/
def masks (ops : List Oper) : List Nat := ops.foldl (fun acc o => acc ++ [maskOf acc o]) []

/-- Operations that look at their operands alone. -/
def opKind : Op → Bool
  | .move _ | .assign _ | .pick .. | .build .. | .nilCheck _ | .binOp .. | .unOp .. | .makeFunc .. | .slice .. | .fieldAddr .. | .field .. | .indexAddr .. | .index .. | .extract .. => true
  | _ => false

def quiet : Op → Bool
  | .move _ | .assign _ | .pick .. | .build .. | .nilCheck _ | .binOp .. | .unOp .. | .makeFunc .. | .fieldAddr .. | .field .. | .indexAddr .. | .index .. | .extract .. => true
  | _ => false

def isStrV : Value → Bool
  | .string _ => true
  | _ => false
def isIntV : Value → Bool
  | .int _ _ => true
  | _ => false
/-- Operations that look at their operands alone, at a state. -/
def quietAt (s : St) (op : Op) : Bool := quiet op || match op with
  | .slice _ x _ _ _ => isStrV (s.ev x)
  | .convert _ _ x => isIntV (s.ev x)
  | _ => false
theorem quietAt_no {s : St} {op : Op} (h : quietAt s op = false) : quiet op = false := by
  unfold quietAt at h
  rw [Bool.or_eq_false_iff] at h
  exact h.1

/-- The temporaries of a list of operands. -/
def tmpsIn (l : List Operand) : List Nat := l.filterMap fun | .tmp t => some t | _ => none

def looks (ops : List Oper) (o : Oper) : List Tmp :=
  o.dst.toList ++ tmpsIn o.op.operands.toList ++
    (match o.guard with
      | some (j, _) => match ops[j]? with
        | some oj => oj.dst.toList
        | none => []
      | none => [])

/-- Is each temporary's writer in order with all that look at it? Does each operation wait for such as stand before it alone? -/
def tmpsOk (ops : List Oper) : Bool :=
  let ms := masks ops
  ops.zipIdx.all fun (o, j) => (o.after.toList.all fun e => !Region.binds .any e || decide (e.on < j)) && (looks ops o).all fun t => ops.zipIdx.all fun (p, i) =>
    i == j || p.dst != some t || (if i < j then (ms.getD j 0).testBit i else (ms.getD i 0).testBit j)

/-- What an operation has to do with memory: nothing; it reads or makes; it changes what is there; it reads a variable of the frame, writes one. -/
inductive Foot where
  | pure
  | ext
  | mut
  | locR (l : Nat)
  | locW (l : Nat)

def compat : Foot → Foot → Bool
  | .ext, .mut | .mut, .ext | .mut, .mut => false
  | .locR l, .locW k | .locW l, .locR k | .locW l, .locW k => decide (l ≠ k)
  | _, _ => true

/-- A heap that is the elder one and new blocks. -/
def Grown (H H' : Heap) : Prop := Ext H H' ∧ ∀ i, H.size ≤ i → i < H'.size → H.size ≤ (H'.blk i).root

/-- The variable of the frame that an address is of. -/
def locOf : Value → Option Nat
  | .pointer (some ⟨l, _, some 0⟩) => some l
  | _ => none

open Classical in
noncomputable def foot (ls : List Nat) (o : Oper) (s s' : St) : Option Foot :=
  if quietAt s o.op = true then some .pure else
  match o.op with
  | .load _ a => match locOf (s.ev a) with
    | some l => some (.locR l)
    | none => some .ext
  | .store _ a _ => match locOf (s.ev a) with
    | some l => some (.locW l)
    | none => some .mut
  | .alloc _ => if o.dst.any (ls.contains ·) then some (.locW s.gen) else some .ext
  | .box _ _ => if o.dst.any (ls.contains ·) then some (.locW s.gen) else some .ext
  | _ => if Grown s.heap s'.heap then some .ext else if s.heap.size ≤ s'.heap.size then some .mut else none

/-- Is an operation at peace with those before it in the text, or does it wait for them? -/
def agree (ms : List Nat) (fs : List Foot) (f : Foot) : Bool := fs.zipIdx.all fun (g, k) => compat g f || (ms.getD fs.length 0).testBit k

noncomputable def evDraw (P : Program) (C : Oracle) (ls : List Nat) (ops : Array Oper) (ms : List Nat) : List Foot → List Oper → St → Option St
  | _, [], s => some s
  | fs, o :: rest, s => match evOp P C ls ops o s with
    | some s' => match foot ls o s s' with
      | some f => if agree ms fs f then evDraw P C ls ops ms (fs ++ [f]) rest s' else none
      | none => none
    | none => none

/-! ### Code -/

def evSeq (k : St → Option Res) : Option Res → Option Res
  | some (.norm s) => k s
  | r => r

def evBlk (id : Nat) : Option Res → Option Res
  | some (.exit id' s) => if id' = id then some (.norm s) else some (.exit id' s)
  | r => r

def normO : Option St → Option Res
  | some s => some (.norm s)
  | none => none

noncomputable def evCode (P : Program) (C : Oracle) (n : Nat) (ls : List Nat) : Code → St → Option Res
  | .skip, s => some (.norm s)
  | .label _, s => some (.norm s)
  | .region _ ops draw, s =>
    if draw then normO (evDraw P C ls ops (masks ops.toList) [] ops.toList s)
    else normO (evOps P C ls ops ops.toList s)
  | .seq a b, s => evSeq (evCode P C n ls b) (evCode P C n ls a s)
  | .cond c a b, s => match s.ev c with
    | .bool t => if t then evCode P C n ls a s else evCode P C n ls b s
    | _ => none
  | .block id a, s => evBlk id (evCode P C n ls a s)
  | .loop a, s => loopN (evCode P C n ls a) n s
  | .exit id, s => some (.exit id s)
  | .ret, s => some (.ret s)
  | _, _ => none

/-- Is all in order in each drawn region? -/
def drawsOk : Code → Bool
  | .region _ ops draw => !draw || tmpsOk ops.toList
  | .seq a b => drawsOk a && drawsOk b
  | .cond _ a b => drawsOk a && drawsOk b
  | .block _ a => drawsOk a
  | .loop a => drawsOk a
  | _ => true

/-! ### Calls
'T': functions whose contracts are proved otherwise. -/

/-- The temporaries that hold variables of the frame alone: made by an alloc or a box, looked at as addresses alone. -/
def opsOf : Code → List Oper
  | .region _ ops _ => ops.toList
  | .seq a b => opsOf a ++ opsOf b
  | .cond _ a b => opsOf a ++ opsOf b
  | .block _ a => opsOf a
  | .loop a => opsOf a
  | _ => []

def conds : Code → List Operand
  | .seq a b => conds a ++ conds b
  | .cond c a b => c :: conds a ++ conds b
  | .block _ a => conds a
  | .loop a => conds a
  | _ => []

/-- The operands that are looked at otherwise than as an address that is read or written. -/
def valued : Op → List Operand
  | .load _ _ => []
  | .store _ _ v => [v]
  | .fieldAddr _ _ _ => []
  | op => op.operands.toList

/-- Temporaries whose address goes elsewhere: as they stand, and through the address of a field. -/
def leaks (ops : List Oper) : Nat → List Nat → List Nat
  | 0, l => l
  | n + 1, l => leaks ops n (l ++ ops.filterMap fun o => match o.op with
    | .fieldAddr _ (.tmp x) _ => if (o.dst.any (l.contains ·)) && !l.contains x then some x else none
    | _ => none)

def isMake : Op → Bool
  | .alloc _ | .box .. => true
  | _ => false

def localsOf (fn : Func) : List Nat :=
  match fn.body with
  | some b =>
    let ops := opsOf b
    let bad := leaks ops 4 ((ops.flatMap fun o => tmpsIn (valued o.op)) ++ tmpsIn (conds b) ++ fn.results.toList.filterMap fun | .tmp t => some t | _ => none)
    ops.filterMap fun o => if isMake o.op then match o.dst with
      | some d => if bad.contains d then none else some d
      | none => none else none
  | none => []

def env0 (args : Array Value) (t : Nat) : Value := args.getD t undef

def result1 (P : Program) (s : St) : ResultVar → Option Value
  | .tmp t => if isLoc (s.env t) then none else some (s.env t)
  | .cell a t => match TI P t with
    | some ti => (s.cellsAt (s.env a) ti.size).bind (mk ti.agg)
    | none => none

def resultL (P : Program) (s : St) : List ResultVar → Option (List Value)
  | [] => some []
  | r :: rest => match result1 P s r, resultL P s rest with
    | some v, some l => some (v :: l)
    | _, _ => none

def resultsOf (P : Program) (s : St) (rs : List ResultVar) : Option Value :=
  match resultL P s rs with
  | some [v] => some v
  | some l => some (.tuple l.toArray)
  | none => none

/-- Does the list hold no address of a block from n on? -/
def olderThan (n : Nat) : Value → Prop
  | .pointer (some a) => a.block < n ∧ a.spot = none
  | .slice (some a) _ _ => a.block < n ∧ a.spot = none
  | v => flat0 v = true

/-- Can what was made be forgotten behind a call: does its result hold no address, and the elder blocks none of what was made? -/
def Gone (H : Heap) (v : Value) (H' : Heap) : Prop :=
  flatB v = true ∧ ∀ i, i < H.size → ∀ c ∈ (H'.blk i).cells, c ∈ (H.blk i).cells ∨ olderThan H.size c

open Classical in
/-- What a call has made and no one can reach goes. -/
noncomputable def gc (H : Heap) (v : Value) (H' : Heap) : Heap := if H.size < H'.size ∧ Gone H v H' then H'.trunc H.size else H'

noncomputable def ev (P : Program) (T : FuncId → Option (Array Value → Heap → Option (Value × Heap))) : Nat → Oracle
  | 0, _, _, _ => none
  | n + 1, f, args, H =>
    match T f with
    | some g => g args H
    | none =>
    match P.funcs[f]? with
    | none => none
    | some fn =>
      match fn.body with
      | none => none
      | some body =>
        if fn.name = "runtime.NumGoroutine" ∨ fn.ntmps < args.size ∨ drawsOk body = false then none else
        match evCode P (ev P T n) n (localsOf fn) body ⟨env0 args, fun _ => [], 0, H, fn.ntmps⟩ with
        | some (.norm s) | some (.ret s) =>
          match resultsOf P s fn.results.toList with
          | some v => some (v, gc H v s.heap)
          | none => none
        | _ => none

/-! ### The shape of a struct that can be compared -/
def eqShape (P : Program) (t : TypeId) : Option (List (TypeId × Nat)) :=
  match P.underlying t with
  | some (.struct fs) => if P.stoodInHeld t || fs.toList.any (fun f => f.name == "_") then none else some (fs.toList.map fun f => (f.type, f.offset))
  | _ => none
def eqFlds (P : Program) (d : Nat) (xs ys : List Value) : List (TypeId × Nat) → Option Bool
  | [] => some true
  | (t, o) :: r =>
    match TI P t with
    | none => none
    | some ti =>
      match (window xs o ti.size).bind (mk ti.agg), (window ys o ti.size).bind (mk ti.agg) with
      | some a, some b =>
        match eqIn P d t a b, eqFlds P d xs ys r with
        | some r, some r' => some (r && r')
        | _, _ => none
      | _, _ => none
theorem eqFlds_go (P : Program) (d : Nat) (xs ys : Array Value) : ∀ fs : List Field, fs.any (fun f => f.name == "_") = false → eqIn.go P d xs ys fs = eqFlds P d xs.toList ys.toList (fs.map fun f => (f.type, f.offset))
  | [], _ => by simp [eqIn.go, eqFlds]
  | f :: fs, h => by
    rw [List.any_cons, Bool.or_eq_false_iff] at h
    have ih := eqFlds_go P d xs ys fs h.2
    have hn : ¬ f.name = "_" := by simpa using h.1
    rw [eqIn.go, if_neg hn, List.map_cons, eqFlds, ih]
    rfl
theorem eqIn_agg {P : Program} {t : TypeId} {l : List (TypeId × Nat)} (h : eqShape P t = some l) (d : Nat) (xs ys : Array Value) : eqIn P (d + 1) t (.agg xs) (.agg ys) = eqFlds P d xs.toList ys.toList l := by
  unfold eqShape at h
  split at h
  · rename_i fs hu
    split at h
    · cases h
    · rename_i hc
      simp only [Bool.or_eq_true, not_or, Bool.not_eq_true] at hc
      cases h
      unfold eqIn
      simp only [hu, hc.1, Bool.false_eq_true, if_false]
      exact eqFlds_go P d xs ys fs.toList hc.2
  · cases h

end Go.Abs
