/-
  THE ABSTRACT MACHINE AND THE MODEL: how their values, heaps and frames go together.
-/
import Derived.Test.YtifiajbjfoigcaaGreatAbsOps
import Derived.Below
namespace Go.Abs
open Go

/-- What stands for an abstract block: the world's block, where it begins there, its element's size, how many cells the world's block has. -/
structure Ent where
  b : Nat
  s : Nat
  es : Nat
  top : Nat

abbrev Map := Nat → Option Ent

inductive V (m : Map) : Value → Value → Prop
  | bool (b : Bool) : V m (.bool b) (.bool b)
  | int (k : IntKind) (n : Int) : V m (.int k n) (.int k n)
  | str (s : ByteArray) : V m (.string s) (.string s)
  | nilp : V m (.pointer none) (.pointer none)
  | ptr (id off : Nat) (e : Ent) (h : m id = some e) : V m (.pointer (some ⟨id, off, none⟩)) (.pointer (some ⟨e.b, e.s + off, none⟩))
  | nils : V m (.slice none 0 0) (.slice none 0 0)
  | slc (id off len c cap o : Nat) (e : Ent) (h : m id = some e) (hl : len ≤ cap) (hc : c = 0 ∨ c = cap + 1)
      (ho : o = e.s + off ∨ cap = 0) (ht : e.s + off + cap * e.es ≤ e.top ∨ cap = 0) :
      V m (.slice (some ⟨id, off, none⟩) len c) (.slice (some ⟨e.b, o, none⟩) len cap)
  | nilf : V m .nilFunc .nilFunc
  | nili : V m .nilIface .nilIface
  | func (f : FuncId) (fi fi' ca ca' : Array Value) (h1 : fi.size = fi'.size) (h2 : ca.size = ca'.size)
      (h3 : ∀ (i : Nat) x y, fi[i]? = some x → fi'[i]? = some y → V m x y) (h4 : ∀ (i : Nat) x y, ca[i]? = some x → ca'[i]? = some y → V m x y) :
      V m (.func (.func f) fi ca) (.func (.func f) fi' ca')
  | agg (xs ys : Array Value) (h : xs.size = ys.size) (h1 : ∀ (i : Nat) x, xs[i]? = some x → one x = true)
      (hh : ∀ (i : Nat) x y, xs[i]? = some x → ys[i]? = some y → V m x y) : V m (.agg xs) (.agg ys)
  | tup (xs ys : Array Value) (h : xs.size = ys.size) (hh : ∀ (i : Nat) x y, xs[i]? = some x → ys[i]? = some y → V m x y) : V m (.tuple xs) (.tuple ys)

/-- One map says no less than the other one. -/
def Le (m m' : Map) : Prop := ∀ id e, m id = some e → m' id = some e

theorem Le.refl (m : Map) : Le m m := fun _ _ h => h
theorem Le.trans {a b c : Map} (h : Le a b) (k : Le b c) : Le a c := fun id e x => k id e (h id e x)

theorem V.mono {m m' : Map} (hm : Le m m') {v cv : Value} (h : V m v cv) : V m' v cv := by
  induction h with
  | bool b => exact .bool b
  | int k n => exact .int k n
  | str s => exact .str s
  | nilp => exact .nilp
  | ptr id off e h => exact .ptr id off e (hm _ _ h)
  | nils => exact .nils
  | slc id off len c cap o e h hl hc ho ht => exact .slc id off len c cap o e (hm _ _ h) hl hc ho ht
  | nilf => exact .nilf
  | nili => exact .nili
  | func f fi fi' ca ca' h1 h2 h3 h4 i3 i4 => exact .func f fi fi' ca ca' h1 h2 i3 i4
  | agg xs ys h h1 hh ih => exact .agg xs ys h h1 ih
  | tup xs ys h hh ih => exact .tup xs ys h ih

/-- The map of the blocks below n alone. -/
def below (m : Map) (n : Nat) : Map := fun id => if id < n then m id else none

theorem below_le (m : Map) (n : Nat) : Le (below m n) m := fun id e h => by
  unfold below at h
  split at h
  · exact h
  · cases h

theorem below_mono (m : Map) {n k : Nat} (h : n ≤ k) : Le (below m n) (below m k) := fun id e x => by
  unfold below at *
  split at x
  · rw [if_pos (by omega)]; exact x
  · cases x

theorem V.one {m : Map} {v cv : Value} (h : V m v cv) : one cv = one v := by cases h <;> rfl
theorem one_oneCell (v : Value) (h : one v = true) : v.oneCell' = true := by cases v <;> first | rfl | cases h
theorem V.cells_size {m : Map} {v cv : Value} (h : V m v cv) : cv.cells.size = v.cells.size := by
  cases h <;> first | rfl | (simp only [Value.cells]; omega)

/-- Values that hold no address stand for themselves. -/
theorem V.of_flat0 {m : Map} : ∀ {v : Value}, flat0 v = true → V m v v
  | .bool b, _ => .bool b
  | .int k n, _ => .int k n
  | .string s, _ => .str s
  | .pointer none, _ => .nilp
  | .nilFunc, _ => .nilf
  | .nilIface, _ => .nili
  | .slice none 0 0, _ => .nils
  | .func (.func f) fi ca, h => by
    simp only [flat0, Bool.and_eq_true, Array.isEmpty_iff] at h
    obtain ⟨rfl, rfl⟩ := h
    exact .func _ _ _ _ _ rfl rfl (fun i x y hx => by simp at hx) (fun i x y hx => by simp at hx)
  | .func (.method _) _ _, h => by simp [flat0] at h
  | .func (.methodOf _ _) _ _, h => by simp [flat0] at h
  | .func (.via _ _ _ _) _ _, h => by simp [flat0] at h
  | .func (.yield _) _ _, h => by simp [flat0] at h
  | .pointer (some _), h => by simp [flat0] at h
  | .slice (some _) _ _, h => by simp [flat0] at h
  | .slice none (n + 1) c, h => by simp [flat0] at h
  | .slice none 0 (c + 1), h => by simp [flat0] at h
  | .float _ _, h => by simp [flat0] at h
  | .complex _ _ _, h => by simp [flat0] at h
  | .map _, h => by simp [flat0] at h
  | .chan _, h => by simp [flat0] at h
  | .iface _ _, h => by simp [flat0] at h
  | .agg _, h => by simp [flat0] at h
  | .tuple _, h => by simp [flat0] at h

theorem V.eq_flat0 {m : Map} {v cv : Value} (hf : flat0 v = true) (h : V m v cv) : cv = v := by
  cases h with
  | func f fi fi' ca ca' h1 h2 h3 h4 =>
    simp only [flat0, Bool.and_eq_true, Array.isEmpty_iff] at hf
    obtain ⟨rfl, rfl⟩ := hf
    have e1 : fi' = #[] := Array.eq_empty_of_size_eq_zero (by simpa using h1.symm)
    have e2 : ca' = #[] := Array.eq_empty_of_size_eq_zero (by simpa using h2.symm)
    rw [e1, e2]
  | _ => first | rfl | (simp [flat0] at hf)

theorem flat0_one {v : Value} (h : flat0 v = true) : one v = true := by
  cases v <;> first | rfl | (simp [flat0] at h)

theorem V.of_flat1 {m : Map} {v : Value} (h : flat1 v = true) : V m v v := by
  cases v with
  | agg xs =>
    simp only [flat1, List.all_eq_true] at h
    refine .agg xs xs rfl (fun i x hx => flat0_one (h x ?_)) fun i x y hx hy => ?_
    · exact Array.mem_toList_iff.2 (Array.mem_of_getElem? hx)
    · rw [hx] at hy; cases hy
      exact .of_flat0 (h x (Array.mem_toList_iff.2 (Array.mem_of_getElem? hx)))
  | _ => exact .of_flat0 h

theorem V.eq_flat1 {m : Map} {v cv : Value} (hf : flat1 v = true) (h : V m v cv) : cv = v := by
  cases h with
  | agg xs ys hs h1 hh =>
    simp only [flat1, List.all_eq_true] at hf
    congr 1
    apply Array.ext hs.symm
    intro i hi hi'
    exact V.eq_flat0 (hf _ (Array.mem_toList_iff.2 (Array.getElem_mem hi'))) (hh i xs[i] ys[i] (by simp) (by simp))
  | bool b => rfl
  | int k n => rfl
  | str s => rfl
  | nilp => rfl
  | nils => rfl
  | nilf => rfl
  | nili => rfl
  | ptr id off e h => exact V.eq_flat0 hf (.ptr id off e h)
  | slc id off len c cap o e h hl hc ho ht => exact V.eq_flat0 hf (.slc id off len c cap o e h hl hc ho ht)
  | func f fi fi' ca ca' h1 h2 h3 h4 => exact V.eq_flat0 hf (.func f fi fi' ca ca' h1 h2 h3 h4)
  | tup xs ys h hh => simp [flat1, flat0] at hf

theorem V.of_flat {m : Map} {v : Value} (h : flatB v = true) : V m v v := by
  cases v with
  | tuple xs =>
    simp only [flatB, List.all_eq_true] at h
    refine .tup xs xs rfl fun i x y hx hy => ?_
    rw [hx] at hy; cases hy
    exact .of_flat1 (h x (Array.mem_toList_iff.2 (Array.mem_of_getElem? hx)))
  | _ => exact .of_flat1 h

theorem V.eq_flat {m : Map} {v cv : Value} (hf : flatB v = true) (h : V m v cv) : cv = v := by
  cases h with
  | tup xs ys hs hh =>
    simp only [flatB, List.all_eq_true] at hf
    congr 1
    apply Array.ext hs.symm
    intro i hi hi'
    exact V.eq_flat1 (hf _ (Array.mem_toList_iff.2 (Array.getElem_mem hi'))) (hh i xs[i] ys[i] (by simp) (by simp))
  | bool b => rfl
  | int k n => rfl
  | str s => rfl
  | nilp => rfl
  | nils => rfl
  | nilf => rfl
  | nili => rfl
  | ptr id off e h => exact V.eq_flat1 hf (.ptr id off e h)
  | slc id off len c cap o e h hl hc ho ht => exact V.eq_flat1 hf (.slc id off len c cap o e h hl hc ho ht)
  | func f fi fi' ca ca' h1 h2 h3 h4 => exact V.eq_flat1 hf (.func f fi fi' ca ca' h1 h2 h3 h4)
  | agg xs ys h h1 hh => exact V.eq_flat1 hf (.agg xs ys h h1 hh)

/-! ### Cells -/

/-- A list of cells and what stands for it from a place of an array on. -/
def Cells (m : Map) (l : List Value) (C : Array Value) (s : Nat) : Prop :=
  ∀ (i : Nat) v, l[i]? = some v → one v = true ∧ ∃ cv, C[s + i]? = some cv ∧ V m v cv

theorem Cells.mono {m m' : Map} (hm : Le m m') {l : List Value} {C : Array Value} {s : Nat} (h : Cells m l C s) : Cells m' l C s :=
  fun i v hv => let ⟨h1, cv, hc, k⟩ := h i v hv; ⟨h1, cv, hc, k.mono hm⟩

def free (f : Nat × Nat) (C : Array Value) : Prop := ∀ o, o < C.size → ¬ (f.1 ≤ o ∧ o < f.2)
/-- No cell of the part that an entry is about is frozen. -/
def freeIn (f : Nat × Nat) (e : Ent) : Prop := ∀ o, e.s ≤ o → o < e.top → ¬ (f.1 ≤ o ∧ o < f.2)


/-- What stands in the world for a block. -/
def BlkRel (m : Map) (k : Blk) (e : Ent) (w : World) : Prop :=
  ∃ C t f, w.heap[e.b]? = some (Obj.cells C t f) ∧ (e.s + k.cells.length ≤ e.top ∧ e.top ≤ C.size) ∧ freeIn f e ∧ e.es = k.es ∧ Cells m k.cells C e.s

structure HRel (m : Map) (H : Heap) (w : World) : Prop where
  dom : ∀ id e, m id = some e → id < H.size
  blk : ∀ id e, m id = some e → BlkRel m (H.blk id) e w
  alias : ∀ i j e f, m i = some e → m j = some f → e.b = f.b → (H.blk i).root = (H.blk j).root ∧ e.s + (H.blk j).roff = f.s + (H.blk i).roff

/-- Of a frame's own variables: the world's block. -/
abbrev LMap := Nat → Option Nat

structure LRel (m : Map) (β : LMap) (loc : Nat → List Value) (gen : Nat) (w : World) : Prop where
  dom : ∀ l b, β l = some b → l < gen
  blk : ∀ l b, β l = some b → ∃ C t f, w.heap[b]? = some (Obj.cells C t f) ∧ C.size = (loc l).length ∧ free f C ∧ Cells m (loc l) C 0
  inj : ∀ l k b, β l = some b → β k = some b → l = k
  sep : ∀ l b id e, β l = some b → m id = some e → e.b ≠ b

def VL (m : Map) (β : LMap) (v cv : Value) : Prop :=
  (∃ l off b, v = lptr l off ∧ β l = some b ∧ cv = .pointer (some ⟨b, off, none⟩)) ∨ v = bot ∨ V m v cv

def LeL (β β' : LMap) : Prop := ∀ l b, β l = some b → β' l = some b

theorem VL.mono {m m' : Map} {β β' : LMap} (hm : Le m m') (hb : LeL β β') {v cv : Value} (h : VL m β v cv) : VL m' β' v cv := by
  rcases h with ⟨l, off, b, h1, h2, h3⟩ | h | h
  · exact .inl ⟨l, off, b, h1, hb _ _ h2, h3⟩
  · exact .inr (.inl h)
  · exact .inr (.inr (h.mono hm))

theorem VL.v {m : Map} {β : LMap} {v cv : Value} (h : VL m β v cv) (hl : isLoc v = false) : V m v cv := by
  rcases h with ⟨l, off, b, rfl, _, _⟩ | rfl | h
  · cases hl
  · cases hl
  · exact h

theorem storable_isLoc {v : Value} (h : storable v = true) : isLoc v = false := by
  unfold storable at h
  unfold isLoc
  split at h <;> first | cases h | skip
  split <;> simp_all

/-- How the maps and the worlds go on. -/
structure Fr (m : Map) (β : LMap) (n g : Nat) (w : World) (m' : Map) (β' : LMap) (w' : World) : Prop where
  os : w'.os = w.os
  tape : w'.tape = w.tape
  output : w'.output = w.output
  size : w.heap.size ≤ w'.heap.size
  keep : ∀ id, id < n → m' id = m id
  lkeep : ∀ l, l < g → β' l = β l
  img : ∀ id e, m' id = some e → (∃ i f, m i = some f ∧ f.b = e.b) ∨ w.heap.size ≤ e.b
  limg : ∀ l b, β' l = some b → β l = some b ∨ w.heap.size ≤ b
  frame : ∀ b, b < w.heap.size → (∀ id e, m id = some e → e.b ≠ b) → (∀ l, β l ≠ some b) → w'.heap[b]? = w.heap[b]?
  shape : ∀ (b : Nat) (C : Array Value) (t : TypeId) (f : Nat × Nat), w.heap[b]? = some (Obj.cells C t f) → ∃ C', w'.heap[b]? = some (Obj.cells C' t f) ∧ C'.size = C.size
  img2 : ∀ id e, m' id = some e → (∃ i f, m i = some f ∧ f.b = e.b ∧ f.s ≤ e.s ∧ e.top ≤ f.top) ∨ w.heap.size ≤ e.b
  rest : ∀ (b : Nat) (C C' : Array Value) (t t' : TypeId) (f f' : Nat × Nat), w.heap[b]? = some (Obj.cells C t f) → w'.heap[b]? = some (Obj.cells C' t' f') →
    ∀ o, (∀ id e, m id = some e → e.b = b → o < e.s ∨ e.top ≤ o) → (∀ l, β l ≠ some b) → C'[o]? = C[o]?

theorem Fr.refl (m : Map) (β : LMap) (n g : Nat) (w : World) : Fr m β n g w m β w :=
  ⟨rfl, rfl, rfl, Nat.le_refl _, fun _ _ => rfl, fun _ _ => rfl, fun id e h => .inl ⟨id, e, h, rfl⟩, fun _ _ h => .inl h, fun _ _ _ _ => rfl, fun _ C _ _ h => ⟨C, h, rfl⟩, fun id e h => .inl ⟨id, e, h, rfl, Nat.le_refl _, Nat.le_refl _⟩, fun _ C C' t t' f f' h h' _ _ _ => by rw [h] at h'; cases h'; rfl⟩

theorem Fr.trans {m m' m'' : Map} {β β' β'' : LMap} {n n' g g' : Nat} {w w' w'' : World} (h : Fr m β n g w m' β' w') (k : Fr m' β' n' g' w' m'' β'' w'')
    (hn : n ≤ n') (hg : g ≤ g') : Fr m β n g w m'' β'' w'' where
  os := k.os.trans h.os
  tape := k.tape.trans h.tape
  output := k.output.trans h.output
  size := Nat.le_trans h.size k.size
  keep id hi := (k.keep id (by omega)).trans (h.keep id hi)
  lkeep l hl := (k.lkeep l (by omega)).trans (h.lkeep l hl)
  img id e he := by
    rcases k.img id e he with ⟨i, f, hf, hb⟩ | hb
    · rcases h.img i f hf with ⟨j, q, hq, hb'⟩ | hb'
      · exact .inl ⟨j, q, hq, hb'.trans hb⟩
      · exact .inr (hb ▸ hb')
    · exact .inr (Nat.le_trans h.size hb)
  limg l b hb := by
    rcases k.limg l b hb with hb | hb
    · exact h.limg l b hb
    · exact .inr (Nat.le_trans h.size hb)
  frame b hb h1 h2 := by
    rw [k.frame b (Nat.lt_of_lt_of_le hb h.size) ?_ ?_, h.frame b hb h1 h2]
    · intro id e he heb
      rcases h.img id e he with ⟨i, f, hf, hfb⟩ | hb'
      · exact h1 i f hf (hfb.trans heb)
      · omega
    · intro l hl
      rcases h.limg l b hl with hl | hl
      · exact h2 l hl
      · omega
  shape b C t f hb := by
    obtain ⟨C', hb', hs'⟩ := h.shape b C t f hb
    obtain ⟨C'', hb'', hs''⟩ := k.shape b C' t f hb'
    exact ⟨C'', hb'', hs''.trans hs'⟩
  img2 id e he := by
    rcases k.img2 id e he with ⟨i, f, hf, hb, h1, h2⟩ | hb
    · rcases h.img2 i f hf with ⟨j, q, hq, hb', h1', h2'⟩ | hb'
      · exact .inl ⟨j, q, hq, hb'.trans hb, Nat.le_trans h1' h1, Nat.le_trans h2 h2'⟩
      · exact .inr (hb ▸ hb')
    · exact .inr (Nat.le_trans h.size hb)
  rest b C C'' t t'' f f'' hC hC'' o ho hl := by
    obtain ⟨C', hb', hs'⟩ := h.shape b C t f hC
    have hlt : b < w.heap.size := (Array.getElem?_eq_some_iff.1 hC).1
    rw [k.rest b C' C'' t t'' f f'' hb' hC'' o ?_ ?_, h.rest b C C' t t f f hC hb' o ho hl]
    · intro id e he heb
      rcases h.img2 id e he with ⟨i, q, hq, hqb, h1, h2⟩ | hge
      · rcases ho i q hq (hqb.trans heb) with h3 | h3
        · exact .inl (by omega)
        · exact .inr (by omega)
      · omega
    · intro l hl'
      rcases h.limg l b hl' with h4 | h4
      · exact hl l h4
      · omega

theorem Fr.weaken {m m' : Map} {β β' : LMap} {n n' g g' : Nat} {w w' : World} (h : Fr m β n g w m' β' w') (hn : n' ≤ n) (hg : g' ≤ g) : Fr m β n' g' w m' β' w' :=
  { h with keep := fun id hi => h.keep id (by omega), lkeep := fun l hl => h.lkeep l (by omega) }

end Go.Abs
