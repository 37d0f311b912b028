/-
  THE ABSTRACT MACHINE: a deterministic evaluator of the model's code over an abstract heap: no addresses of the world, no
  capacities, no order of evaluation. Its soundness against the model stands in the texts AbsSound..
-/
import Derived.Orders
import Derived.Deep.AppendSrc
import Derived.Laws.StructEq
import Derived.KernelRfl
namespace Go.Abs
open Go

/-! ### The abstract heap -/

/-- A block: its cells, how many cells one element has, the first block of the chain of appends that it belongs to, and where it begins in that. -/
structure Blk where
  cells : List Value
  es : Nat
  root : Nat
  roff : Nat

def Blk.zero : Blk := ⟨[], 0, 0, 0⟩

structure Heap where
  size : Nat
  blk : Nat → Blk
  out : ∀ i, size ≤ i → blk i = Blk.zero
  rle : ∀ i, (blk i).root ≤ i

theorem Heap.ext' {a b : Heap} (h : a.size = b.size) (hb : ∀ i, a.blk i = b.blk i) : a = b := by
  obtain ⟨s, f, _, _⟩ := a
  obtain ⟨s', f', _, _⟩ := b
  obtain rfl : s = s' := h
  obtain rfl : f = f' := funext hb
  rfl

def Heap.push (H : Heap) (cells : List Value) (es : Nat) : Heap where
  size := H.size + 1
  blk := fun i => if i = H.size then ⟨cells, es, H.size, 0⟩ else H.blk i
  out := fun i hi => by
    have : i ≠ H.size := by omega
    simp [this, H.out i (by omega)]
  rle := fun i => by
    by_cases h : i = H.size
    · simp [h]
    · simp [h, H.rle i]

def splice (l : List Value) (off : Nat) (vs : List Value) : List Value := l.take off ++ vs ++ l.drop (off + vs.length)

/-- What a write or an append at place 'at' of the chain 'r' leaves of another block of it. -/
def Blk.cut (b : Blk) (r at_ : Nat) : Blk := if b.root = r then { b with cells := b.cells.take (at_ - b.roff) } else b

theorem Blk.cut_zero (r n : Nat) : Blk.zero.cut r n = Blk.zero := by
  unfold Blk.cut Blk.zero
  split <;> simp

theorem Blk.cut_root (b : Blk) (r n : Nat) : (b.cut r n).root = b.root := by
  unfold Blk.cut
  split <;> rfl

/-- Cells are written from a place of a block on. -/
def Heap.write (H : Heap) (id off : Nat) (vs : List Value) : Heap where
  size := H.size
  blk := fun i => if H.size ≤ i then Blk.zero else if i = id then { H.blk id with cells := splice (H.blk id).cells off vs } else (H.blk i).cut (H.blk id).root ((H.blk id).roff + off)
  out := fun i hi => by simp [hi]
  rle := fun i => by
    by_cases hi : H.size ≤ i
    · simp [hi, Blk.zero]
    · by_cases h : i = id
      · subst h; simpa [hi] using H.rle i
      · simp [hi, h, Blk.cut_root, H.rle i]

/-- An append that may go on in the block's own room: what the slice has (from 'off' on, n cells), and the news; no block of the chain is known any more from that place on. -/
def Heap.grow (H : Heap) (id off n : Nat) (es : Nat) (news : List Value) : Heap where
  size := H.size + 1
  blk := fun i => if H.size < i then Blk.zero else if i = H.size then ⟨((H.blk id).cells.drop off).take n ++ news, es, if id ≤ H.size then (H.blk id).root else 0, (H.blk id).roff + off⟩
    else (H.blk i).cut (H.blk id).root ((H.blk id).roff + off + n)
  out := fun i hi => by
    have : H.size < i := by omega
    simp [this]
  rle := fun i => by
    by_cases hi : H.size < i
    · simp [hi, Blk.zero]
    · by_cases h : i = H.size
      · subst h
        by_cases hid : id ≤ H.size
        · simpa [hid] using Nat.le_trans (H.rle id) hid
        · simp [hid]
      · simp [hi, h, Blk.cut_root, H.rle i]

/-- The heap less what was made since it had so many blocks. -/
def Heap.trunc (H : Heap) (n : Nat) : Heap where
  size := n
  blk := fun i => if i < n then H.blk i else Blk.zero
  out := fun i hi => by
    have : ¬ i < n := by omega
    simp [this]
  rle := fun i => by
    by_cases h : i < n
    · simp [h, H.rle i]
    · simp [h, Blk.zero]

/-! ### Values -/

/-- A value that holds no address: alone. -/
def flat0 : Value → Bool
  | .bool _ | .int _ _ | .string _ | .pointer none | .nilFunc | .nilIface => true
  | .slice none 0 0 => true
  | .func (.func _) fi ca => fi.isEmpty && ca.isEmpty
  | _ => false

/-- A value that holds no address: alone, or a struct of such. -/
def flat1 : Value → Bool
  | .agg xs => xs.toList.all flat0
  | v => flat0 v

def flatB : Value → Bool
  | .tuple vs => vs.toList.all flat1
  | v => flat1 v

/-- What a temporary holds of which nothing is known. -/
def bot : Value := .pointer (some ⟨0, 0, some 1⟩)

/-- A pointer to a variable of the frame: the how manieth it is, and the place in it. -/
def lptr (t off : Nat) : Value := .pointer (some ⟨t, off, some 0⟩)

/-- Is it a pointer to a variable of the frame (or nothing known)? -/
def isLoc : Value → Bool
  | .pointer (some ⟨_, _, some _⟩) => true
  | _ => false

/-- One cell's value: no struct, no row of results. -/
def one : Value → Bool
  | .agg _ | .tuple _ => false
  | _ => true

/-- May it be stored, boxed, laid into a struct? -/
def storable : Value → Bool
  | .pointer (some ⟨_, _, some _⟩) => false
  | .tuple _ => false
  | _ => true

/-! ### Types -/

inductive TK where
  | str | int | bool
  | strct (fs : List (Nat × Nat))
  | slice (elem : TypeId) (es : Nat) (bytes : Nat)
  | other

structure TInfo where
  size : Nat
  agg : Bool
  zero : List Value
  k : TK

def aggD : TypeDesc → Bool
  | .struct _ | .array _ _ => true
  | _ => false

def kindD (P : Program) : TypeDesc → TK
  | .string => .str
  | .int _ => .int
  | .bool => .bool
  | .struct fs => if fs.toList.all (fun f => (P.info? f.type).isSome) then .strct (fs.toList.map fun f => (f.offset, ((P.info? f.type).map (·.size)).getD 0)) else .other
  | .slice e => match P.info? e with
    | some j => match j.zero with
      | some z' => if z'.cells.size = j.size then .slice e j.size j.bytes else .other
      | none => .other
    | none => .other
  | _ => .other

/-- What the machine asks of a type. -/
def TI (P : Program) (t : TypeId) : Option TInfo :=
  match P.info? t, P.underlying t with
  | some i, some d =>
    match i.zero with
    | some z => if z.cells.toList.all flat0 then some ⟨i.size, aggD d, z.cells.toList, kindD P d⟩ else none
    | none => none
  | _, _ => none

theorem TI_spec {P : Program} {t : TypeId} {ti : TInfo} (h : TI P t = some ti) : ∃ i d z, P.info? t = some i ∧ P.underlying t = some d ∧ i.zero = some z ∧
    ti.size = i.size ∧ ti.agg = aggD d ∧ ti.zero = z.cells.toList ∧ ti.k = kindD P d ∧ ∀ v ∈ z.cells.toList, flat0 v = true := by
  unfold TI at h
  split at h
  · rename_i i d hi hd
    split at h
    · rename_i z hz
      split at h
      · rename_i ha
        cases h
        exact ⟨i, d, z, hi, hd, hz, rfl, rfl, rfl, rfl, List.all_eq_true.1 ha⟩
      · cases h
    · cases h
  · cases h

/-! ### The frame -/

/-- The frame's temporaries, its own variables (by the order in which they are made, so many till now), the heap, how many temporaries there are. -/
structure St where
  env : Nat → Value
  loc : Nat → List Value
  gen : Nat
  heap : Heap
  nt : Nat

def St.put (s : St) (dst : Option Tmp) (v : Value) : St :=
  match dst with
  | some d => { s with env := fun t => if t = d ∧ d < s.nt then v else s.env t }
  | none => s

def St.ev (s : St) : Operand → Value
  | .tmp t => s.env t
  | .const v => if flatB v then v else bot
  | .global _ => bot
  | .func f => .func (.func f) #[] #[]

/-- The cells of a window, if it lies in the list. -/
def window (l : List Value) (off n : Nat) : Option (List Value) := if off + n ≤ l.length then some ((l.drop off).take n) else none

/-- A variable's value out of its cells. -/
def mk (agg : Bool) (l : List Value) : Option Value :=
  if agg then some (.agg l.toArray) else match l with
    | [v] => some v
    | _ => none

/-- The cells behind an address. -/
def St.cellsAt (s : St) (a : Value) (n : Nat) : Option (List Value) :=
  match a with
  | .pointer (some ⟨t, off, some 0⟩) => if t < s.gen then window (s.loc t) off n else none
  | .pointer (some ⟨id, off, none⟩) => if id < s.heap.size then window (s.heap.blk id).cells off n else none
  | _ => none

/-- Cells are stored behind an address. -/
def St.storeAt (s : St) (a : Value) (vs : List Value) : Option St :=
  match a with
  | .pointer (some ⟨t, off, some 0⟩) =>
    if t < s.gen ∧ off + vs.length ≤ (s.loc t).length then some { s with loc := fun x => if x = t then splice (s.loc t) off vs else s.loc x } else none
  | .pointer (some ⟨id, off, none⟩) =>
    if id < s.heap.size ∧ off + vs.length ≤ (s.heap.blk id).cells.length then some { s with heap := s.heap.write id off vs } else none
  | _ => none

/-- A variable is made: of the frame, where the temporary is one of its own, else in the heap. -/
def St.make (s : St) (ls : List Nat) (dst : Option Tmp) (cells : List Value) : St :=
  if dst.any (ls.contains ·) then { s with loc := fun x => if x = s.gen then cells else s.loc x, gen := s.gen + 1 }.put dst (lptr s.gen 0)
  else { s with heap := s.heap.push cells 0 }.put dst (.pointer (some ⟨s.heap.size, 0, none⟩))

def atOff (a : Value) (n : Nat) : Option Value :=
  match a with
  | .pointer (some ⟨t, off, some 0⟩) => some (.pointer (some ⟨t, off + n, some 0⟩))
  | .pointer (some ⟨id, off, none⟩) => some (.pointer (some ⟨id, off + n, none⟩))
  | _ => none

/-! ### Operations on plain values -/

def bits (op : BinOp) (k : IntKind) (x y : Int) : Int :=
  let a := BitVec.ofInt k.bits x
  let b := BitVec.ofInt k.bits y
  k.wrap (match op with | .and => a &&& b | .or => a ||| b | .xor => a ^^^ b | _ => a &&& ~~~b).toNat

def binInt (op : BinOp) (k : IntKind) (a b : Int) : Option Value :=
  match op with
  | .add => some (.int k (k.wrap (a + b)))
  | .sub => some (.int k (k.wrap (a - b)))
  | .mul => some (.int k (k.wrap (a * b)))
  | .quo => if b = 0 then none else some (.int k (k.wrap (a.tdiv b)))
  | .rem => if b = 0 then none else some (.int k (a.tmod b))
  | .and | .or | .xor | .andNot => some (.int k (bits op k a b))
  | .eql => some (.bool (decide (a = b)))
  | .neq => some (.bool (decide (a ≠ b)))
  | .lss => some (.bool (decide (a < b)))
  | .leq => some (.bool (decide (a ≤ b)))
  | .gtr => some (.bool (decide (b < a)))
  | .geq => some (.bool (decide (b ≤ a)))
  | _ => none

def shift (op : BinOp) (k : IntKind) (a b : Int) : Option Value :=
  if b < 0 then none else
  match op with
  | .shl => some (.int k (k.wrap (a * 2 ^ (min b.toNat k.bits))))
  | .shr => some (.int k (a.fdiv (2 ^ (min b.toNat k.bits))))
  | _ => none

def binStr (op : BinOp) (a b : ByteArray) : Option Value :=
  match op with
  | .add => if a.size + b.size ≤ 2 ^ 62 then some (.string (a ++ b)) else none
  | .eql => some (.bool (decide (a = b)))
  | .neq => some (.bool (decide (a ≠ b)))
  | .lss => some (.bool (Op.bytesLess a.toList b.toList))
  | .leq => some (.bool (Op.bytesLess a.toList b.toList || decide (a = b)))
  | .gtr => some (.bool !(Op.bytesLess a.toList b.toList || decide (a = b)))
  | .geq => some (.bool !(Op.bytesLess a.toList b.toList))
  | _ => none

/-- Are two values one? Of structs whose fields are numbers, flags and texts, and of such structs. -/
def eqIn (P : Program) : Nat → TypeId → Value → Value → Option Bool
  | 0, _, _, _ => none
  | d + 1, t, x, y =>
    match P.underlying t, x, y with
    | some .bool, .bool a, .bool b => some (decide (a = b))
    | some (.int _), .int k a, .int k' b => if k = k' then some (decide (a = b)) else none
    | some .string, .string a, .string b => some (decide (a = b))
    | some (.struct fs), .agg xs, .agg ys => if P.stoodInHeld t then none else go d xs ys fs.toList
    | _, _, _ => none
where
  go (d : Nat) (xs ys : Array Value) : List Field → Option Bool
    | [] => some true
    | f :: fs =>
      if f.name = "_" then none else
      match TI P f.type with
      | none => none
      | some ti =>
        match (window xs.toList f.offset ti.size).bind (mk ti.agg), (window ys.toList f.offset ti.size).bind (mk ti.agg) with
        | some a, some b =>
          match eqIn P d f.type a b, go d xs ys fs with
          | some r, some r' => some (r && r')
          | _, _ => none
        | _, _ => none

/-- Is it certainly nil, is it certainly not? -/
def nilness : Value → Option Bool
  | .pointer none | .slice none _ _ | .nilFunc | .nilIface => some true
  | .pointer (some ⟨_, _, none⟩) | .slice (some _) _ _ | .func _ _ _ => some false
  | _ => none

/-- Two values that the type lets be held against nil, one of them nil. -/
def eqNil (P : Program) (t : TypeId) (x y : Value) : Option Bool :=
  match P.underlying t, x, y with
  | some (.pointer _), .pointer none, .pointer _ => nilness y
  | some (.pointer _), .pointer _, .pointer none => nilness x
  | some (.slice _), .slice none _ _, .slice _ _ _ => nilness y
  | some (.slice _), .slice _ _ _, .slice none _ _ => nilness x
  | some (.func _ _ _), .nilFunc, .nilFunc => some true
  | some (.func _ _ _), .func _ _ _, .nilFunc => some false
  | some (.func _ _ _), .nilFunc, .func _ _ _ => some false
  | _, _, _ => none

def eqDepth : Nat := 6

def bin (P : Program) (op : BinOp) (t : TypeId) (x y : Value) : Option Value :=
  match op, x, y with
  | .shl, .int k a, .int _ b | .shr, .int k a, .int _ b => shift op k a b
  | _, .int k a, .int k' b => if k = k' then binInt op k a b else none
  | _, .string a, .string b => binStr op a b
  | .eql, x, y => match eqNil P t x y with
    | some r => some (.bool r)
    | none => if P.eqGuardType P.depth t then none else (eqIn P eqDepth t x y).map .bool
  | .neq, x, y => match eqNil P t x y with
    | some r => some (.bool !r)
    | none => if P.eqGuardType P.depth t then none else (eqIn P eqDepth t x y).map fun r => .bool !r
  | _, _, _ => none

def un (op : UnOp) (x : Value) : Option Value :=
  match op, x with
  | .neg, .int k n => some (.int k (k.wrap (0 - n)))
  | .xor, .int k n => some (.int k (bits .xor k (if k.signed then -1 else k.max) n))
  | .not, .bool b => some (.bool !b)
  | _, _ => none

end Go.Abs
