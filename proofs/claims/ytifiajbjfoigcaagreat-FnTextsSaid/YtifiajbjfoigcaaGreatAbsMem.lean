/-
  THE ABSTRACT MACHINE: heaps, as they are told of: a block set anew, a block of its own.
-/
import Derived.Test.YtifiajbjfoigcaaGreatAbsWalk
namespace Go.Abs
open Go
set_option linter.unusedSimpArgs false

/-- A block's cells set anew. -/
def Heap.set (H : Heap) (id : Nat) (cells : List Value) : Heap where
  size := H.size
  blk := fun i => if i = id ∧ id < H.size then { H.blk id with cells := cells } else H.blk i
  out := fun i hi => by
    have : ¬ (i = id ∧ id < H.size) := fun h => by omega
    simp only [if_neg this]
    exact H.out i hi
  rle := fun i => by
    by_cases h : i = id ∧ id < H.size
    · simp only [if_pos h]
      obtain ⟨rfl, _⟩ := h
      exact H.rle i
    · simp only [if_neg h]
      exact H.rle i

/-- A block that shares its place with no other. -/
def Solo (H : Heap) (id : Nat) : Prop := id < H.size ∧ ∀ j, j < H.size → j ≠ id → (H.blk j).root ≠ (H.blk id).root

@[simp] theorem set_size (H : Heap) (k : Nat) (c : List Value) : (H.set k c).size = H.size := id rfl
@[simp] theorem push_size (H : Heap) (c : List Value) (es : Nat) : (H.push c es).size = H.size + 1 := id rfl
attribute [simp] write_size
@[simp] theorem grow_size (H : Heap) (k off n es : Nat) (c : List Value) : (H.grow k off n es c).size = H.size + 1 := id rfl
@[simp] theorem trunc_size (H : Heap) (n : Nat) : (H.trunc n).size = n := rfl

@[simp] theorem set_self {H : Heap} {id : Nat} (h : id < H.size) (c : List Value) : ((H.set id c).blk id).cells = c := by
  show (if id = id ∧ id < H.size then _ else _ : Blk).cells = c
  rw [if_pos ⟨rfl, h⟩]

theorem set_ne {H : Heap} {id j : Nat} (h : j ≠ id) (c : List Value) : (H.set id c).blk j = H.blk j := if_neg fun k => h k.1

theorem set_root (H : Heap) (id j : Nat) (c : List Value) : ((H.set id c).blk j).root = (H.blk j).root := by
  show (if j = id ∧ id < H.size then _ else _ : Blk).root = _
  split
  · rename_i h; rw [h.1]
  · rfl

theorem set_es (H : Heap) (id j : Nat) (c : List Value) : ((H.set id c).blk j).es = (H.blk j).es := by
  show (if j = id ∧ id < H.size then _ else _ : Blk).es = _
  split
  · rename_i h; rw [h.1]
  · rfl

@[simp] theorem set_set (H : Heap) (id : Nat) (a b : List Value) : (H.set id a).set id b = H.set id b := by
  refine Heap.ext' rfl fun i => ?_
  show (if i = id ∧ id < H.size then { (H.set id a).blk id with cells := b } else (H.set id a).blk i) = if i = id ∧ id < H.size then { H.blk id with cells := b } else H.blk i
  by_cases h : i = id ∧ id < H.size
  · rw [if_pos h, if_pos h]
    show ({ (if id = id ∧ id < H.size then { H.blk id with cells := a } else H.blk id : Blk) with cells := b } : Blk) = _
    rw [if_pos ⟨rfl, h.2⟩]
  · rw [if_neg h, if_neg h]
    exact if_neg h

@[simp] theorem gc_set (H : Heap) (v : Value) (id : Nat) (c : List Value) : gc H v (H.set id c) = H.set id c := if_neg fun h => absurd h.1 (Nat.lt_irrefl _)

theorem set_inj {H : Heap} {id : Nat} (h : id < H.size) (a b : List Value) : H.set id a = H.set id b ↔ a = b := by
  constructor
  · intro e
    have := congrArg (fun q : Heap => (q.blk id).cells) e
    simpa [set_self h] using this
  · rintro rfl; rfl

theorem write_set {H : Heap} {id : Nat} (h : Solo H id) (off : Nat) (vs : List Value) : H.write id off vs = H.set id (splice (H.blk id).cells off vs) := by
  refine Heap.ext' rfl fun i => ?_
  show (if H.size ≤ i then Blk.zero else if i = id then { H.blk id with cells := splice (H.blk id).cells off vs } else (H.blk i).cut (H.blk id).root ((H.blk id).roff + off)) =
    if i = id ∧ id < H.size then { H.blk id with cells := splice (H.blk id).cells off vs } else H.blk i
  by_cases hi : H.size ≤ i
  · rw [if_pos hi, if_neg (by have := h.1; omega), H.out i hi]
  · rw [if_neg hi]
    by_cases he : i = id
    · rw [if_pos he, if_pos ⟨he, h.1⟩]
    · rw [if_neg he, if_neg fun k => he k.1]
      unfold Blk.cut
      rw [if_neg (h.2 i (by omega) he)]

@[simp] theorem Solo_set {H : Heap} {id k : Nat} (c : List Value) : Solo (H.set k c) id ↔ Solo H id := by
  unfold Solo
  simp only [set_size, set_root]

theorem Solo_push {H : Heap} {id : Nat} (h : Solo H id) (c : List Value) (es : Nat) : Solo (H.push c es) id := by
  refine ⟨Nat.lt_succ_of_lt h.1, fun j hj hne => ?_⟩
  have hid : id ≠ H.size := by have := h.1; omega
  show (if j = H.size then _ else H.blk j : Blk).root ≠ (if id = H.size then _ else H.blk id : Blk).root
  rw [if_neg hid]
  split
  · have := H.rle id
    have := h.1
    simp only
    omega
  · exact h.2 j (by have : j < H.size + 1 := hj; omega) hne

/-! ### Rules of memory for simp -/

section
variable {P : Program} {ls : List Nat} (e : Nat → Value) (loc : Nat → List Value) (g : Nat) (H : Heap) (n : Nat)

@[simp] theorem updL_at (l t : Nat) (c : List Value) : updL loc l c t = if t = l then c else loc t := rfl
@[simp] theorem atOff_lptr (l o k : Nat) : atOff (lptr l o) k = some (lptr l (o + k)) := rfl
@[simp] theorem atOff_ptr (i o k : Nat) : atOff (.pointer (some ⟨i, o, none⟩)) k = some (.pointer (some ⟨i, o + k, none⟩)) := rfl
@[simp] theorem cellsAt_lptr (l o k : Nat) : (St.mk e loc g H n).cellsAt (lptr l o) k = if l < g then window (loc l) o k else none := rfl
@[simp] theorem cellsAt_ptr (i o k : Nat) : (St.mk e loc g H n).cellsAt (.pointer (some ⟨i, o, none⟩)) k = if i < H.size then window (H.blk i).cells o k else none := rfl
@[simp] theorem storeAt_lptr (l o : Nat) (vs : List Value) : (St.mk e loc g H n).storeAt (lptr l o) vs = if l < g ∧ o + vs.length ≤ (loc l).length then some (St.mk e (updL loc l (splice (loc l) o vs)) g H n) else none := rfl
@[simp] theorem storeAt_ptr (i o : Nat) (vs : List Value) : (St.mk e loc g H n).storeAt (.pointer (some ⟨i, o, none⟩)) vs = if i < H.size ∧ o + vs.length ≤ (H.blk i).cells.length then some (St.mk e loc g (H.write i o vs) n) else none := rfl
@[simp] theorem make_mk (d : Option Tmp) (c : List Value) : (St.mk e loc g H n).make ls d c =
    if d.any (ls.contains ·) = true then (St.mk e (updL loc g c) (g + 1) H n).put d (lptr g 0) else (St.mk e loc g (H.push c 0) n).put d (.pointer (some ⟨H.size, 0, none⟩)) := rfl

@[simp] theorem mk_agg (l : List Value) : Abs.mk true l = some (.agg l.toArray) := rfl
@[simp] theorem mk_one (v : Value) : Abs.mk false [v] = some v := rfl
@[simp] theorem storable_int (k : IntKind) (m : Int) : storable (.int k m) = true := rfl
@[simp] theorem storable_bool (b : Bool) : storable (.bool b) = true := rfl
@[simp] theorem storable_str (b : ByteArray) : storable (.string b) = true := rfl
@[simp] theorem storable_agg (xs : Array Value) : storable (.agg xs) = true := rfl
@[simp] theorem storable_slice (a : Option Addr) (m c : Nat) : storable (.slice a m c) = true := rfl
@[simp] theorem storable_ptr (i o : Nat) : storable (.pointer (some ⟨i, o, none⟩)) = true := rfl
@[simp] theorem storable_nilp : storable (.pointer none) = true := rfl
@[simp] theorem storable_func (f : Fn) (xs ys : Array Value) : storable (.func f xs ys) = true := rfl

@[simp] theorem updL_updL (l : Nat) (c d : List Value) : updL (updL loc l c) l d = updL loc l d := by
  funext x
  unfold updL
  split <;> rfl
@[simp] theorem splice_zero (l vs : List Value) : splice l 0 vs = vs ++ l.drop vs.length := by simp [splice]
@[simp] theorem splice_succ (x : Value) (l vs : List Value) (o : Nat) : splice (x :: l) (o + 1) vs = x :: splice l o vs := by
  unfold splice
  rw [Nat.add_right_comm]
  rfl
@[simp] theorem window_succ (x : Value) (l : List Value) (o k : Nat) : window (x :: l) (o + 1) k = window l o k := by
  unfold window
  have : (o + 1 + k ≤ (x :: l).length) ↔ (o + k ≤ l.length) := by simp; omega
  simp only [this, List.drop_succ_cons]
@[simp] theorem window_zero (l : List Value) (k : Nat) : window l 0 k = if k ≤ l.length then some (l.take k) else none := by
  unfold window
  rw [Nat.zero_add]
  rfl
/-- One cell of a list. -/
@[simp] theorem window_one (l : List Value) (o : Nat) : window l o 1 = (l[o]?).map fun v => [v] := by
  unfold window
  by_cases h : o < l.length
  · rw [if_pos (by omega), List.getElem?_eq_getElem h, List.drop_eq_getElem_cons h]
    rfl
  · rw [if_neg (by omega), List.getElem?_eq_none (by omega)]
    rfl

theorem splice_one (l : List Value) (o : Nat) (v : Value) (h : o < l.length) : splice l o [v] = l.set o v := by
  unfold splice
  rw [List.set_eq_take_append_cons_drop, if_pos h]
  simp

@[simp] theorem bin_eql_bool (t : TypeId) (a b : Bool) (hu : P.underlying t = some .bool) (he : P.eqGuardType P.depth t = false) : bin P .eql t (.bool a) (.bool b) = some (.bool (decide (a = b))) := by
  show (match eqNil P t (.bool a) (.bool b) with | some r => some (Value.bool r) | none => if P.eqGuardType P.depth t then none else (eqIn P eqDepth t (.bool a) (.bool b)).map Value.bool) = _
  have h1 : eqNil P t (.bool a) (.bool b) = none := by unfold eqNil; rw [hu]
  rw [h1]
  simp only [he, Bool.false_eq_true, if_false]
  unfold eqDepth eqIn
  rw [hu]
  rfl

@[simp] theorem bin_neq_bool (t : TypeId) (a b : Bool) (hu : P.underlying t = some .bool) (he : P.eqGuardType P.depth t = false) : bin P .neq t (.bool a) (.bool b) = some (.bool (decide (a ≠ b))) := by
  show (match eqNil P t (.bool a) (.bool b) with | some r => some (Value.bool !r) | none => if P.eqGuardType P.depth t then none else (eqIn P eqDepth t (.bool a) (.bool b)).map fun r => Value.bool !r) = _
  have h1 : eqNil P t (.bool a) (.bool b) = none := by unfold eqNil; rw [hu]
  rw [h1]
  simp only [he, Bool.false_eq_true, if_false]
  unfold eqDepth eqIn
  rw [hu]
  simp

end

end Go.Abs
