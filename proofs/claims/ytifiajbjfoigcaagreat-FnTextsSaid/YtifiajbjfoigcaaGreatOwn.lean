/-
  HEAPS AS CONTRACTS TELL OF THEM: what a call may change (Upd), boxes (Box), slices that are read (Sl), slices that are made (Ow), texts (S).
-/
import Derived.Test.YtifiajbjfoigcaaGreatMach
namespace Go.Abs
open Go
set_option linter.unusedSimpArgs false

/-! ### What a call may change -/

/-- H' is H and more; the blocks in B may have got other cells (none of them is a slice's). -/
structure Upd (B : Nat → Prop) (H H' : Heap) : Prop where
  size : H.size ≤ H'.size
  same : ∀ i, i < H.size → ¬ B i → H'.blk i = H.blk i
  root : ∀ i, i < H.size → (H'.blk i).root = (H.blk i).root
  es : ∀ i, i < H.size → (H'.blk i).es = (H.blk i).es
  new : ∀ i, H.size ≤ i → i < H'.size → H.size ≤ (H'.blk i).root
  box : ∀ i, i < H.size → B i → (H.blk i).es = 0

def no : Nat → Prop := fun _ => False
def one' (id : Nat) : Nat → Prop := fun i => i = id

/-- Slices stay as they are. -/
structure Pe (H H' : Heap) : Prop where
  size : H.size ≤ H'.size
  sl : ∀ i, i < H.size → (H.blk i).es ≠ 0 → H'.blk i = H.blk i

theorem Upd.pe {B : Nat → Prop} {H H' : Heap} (h : Upd B H H') : Pe H H' := ⟨h.size, fun i hi he => h.same i hi fun hb => he (h.box i hi hb)⟩
theorem Pe.trans {H H1 H2 : Heap} (h : Pe H H1) (k : Pe H1 H2) : Pe H H2 :=
  ⟨Nat.le_trans h.size k.size, fun i hi he => by
    have e := h.sl i hi he
    rw [k.sl i (Nat.lt_of_lt_of_le hi h.size) (by rw [e]; exact he), e]⟩
@[simp] theorem Pe_refl (H : Heap) : Pe H H = True := eq_true ⟨Nat.le_refl _, fun _ _ _ => rfl⟩
theorem blk_push (H : Heap) (c : List Value) (es i : Nat) : (H.push c es).blk i = if i = H.size then ⟨c, es, H.size, 0⟩ else H.blk i := rfl
theorem push_old {H : Heap} {i : Nat} (h : i < H.size) (c : List Value) (es : Nat) : (H.push c es).blk i = H.blk i := if_neg (by omega)
@[simp] theorem push_new (H : Heap) (c : List Value) (es : Nat) : (H.push c es).blk H.size = ⟨c, es, H.size, 0⟩ := if_pos rfl
@[simp] theorem Pe_push {H K : Heap} (h : Pe H K) (c : List Value) (es : Nat) : Pe H (K.push c es) :=
  ⟨by simp; have := h.size; omega, fun i hi he => by rw [push_old (Nat.lt_of_lt_of_le hi h.size)]; exact h.sl i hi he⟩

@[simp] theorem Upd_refl (H : Heap) : Upd no H H := ⟨Nat.le_refl _, fun _ _ _ => rfl, fun _ _ => rfl, fun _ _ => rfl, fun _ h1 h2 => by omega, fun _ _ h => h.elim⟩
theorem Upd.trans {B B2 : Nat → Prop} {H H1 H2 : Heap} (h : Upd B H H1) (k : Upd B2 H1 H2) (hb : ∀ i, i < H.size → B2 i → B i) : Upd B H H2 where
  size := Nat.le_trans h.size k.size
  same := fun i hi hn => (k.same i (Nat.lt_of_lt_of_le hi h.size) fun h2 => hn (hb i hi h2)).trans (h.same i hi hn)
  root := fun i hi => (k.root i (Nat.lt_of_lt_of_le hi h.size)).trans (h.root i hi)
  es := fun i hi => (k.es i (Nat.lt_of_lt_of_le hi h.size)).trans (h.es i hi)
  new := fun i h1 h2 => by
    by_cases hi : i < H1.size
    · rw [k.root i hi]; exact h.new i h1 hi
    · exact Nat.le_trans h.size (k.new i (by omega) h2)
  box := h.box
theorem Upd.then {B : Nat → Prop} {H H1 H2 : Heap} (h : Upd B H H1) (k : Upd no H1 H2) : Upd B H H2 := h.trans k fun _ _ h => h.elim
theorem Upd.wide {B : Nat → Prop} {H H1 : Heap} (h : Upd no H H1) (hb : ∀ i, i < H.size → B i → (H.blk i).es = 0) : Upd B H H1 := ⟨h.size, fun i hi _ => h.same i hi fun h => h.elim, h.root, h.es, h.new, hb⟩
theorem Upd.push {B : Nat → Prop} {H K : Heap} (h : Upd B H K) (c : List Value) (es : Nat) : Upd B H (K.push c es) where
  size := by simp; have := h.size; omega
  same := fun i hi hn => by rw [push_old (Nat.lt_of_lt_of_le hi h.size)]; exact h.same i hi hn
  root := fun i hi => by rw [push_old (Nat.lt_of_lt_of_le hi h.size)]; exact h.root i hi
  es := fun i hi => by rw [push_old (Nat.lt_of_lt_of_le hi h.size)]; exact h.es i hi
  new := fun i h1 h2 => by
    by_cases hi : i < K.size
    · rw [push_old hi]; exact h.new i h1 hi
    · have hi : i = K.size := by simp at h2; omega
      subst hi
      rw [push_new]
      exact h.size
  box := h.box
attribute [simp] Upd.push
theorem Upd.grown {H H' : Heap} (h : Upd no H H') : Grown H H' := ⟨⟨h.size, fun i hi => h.same i hi fun h => h.elim⟩, h.new⟩
theorem Upd.of_grown {H H' : Heap} (h : Grown H H') : Upd no H H' := ⟨h.1.1, fun i hi _ => h.1.2 i hi, fun i hi => by rw [h.1.2 i hi], fun i hi => by rw [h.1.2 i hi], h.2, fun _ _ h => h.elim⟩

/-! ### The end of a call -/

theorem gc_flat {H H' : Heap} {v : Value} (hv : flatB v = true) (h : Upd no H H') : gc H v H' = H := by
  by_cases hs : H.size < H'.size
  · have hg : Gone H v H' := ⟨hv, fun i hi c hc => .inl (by rw [h.same i hi fun h => h.elim] at hc; exact hc)⟩
    rw [gc, if_pos ⟨hs, hg⟩]
    refine Heap.ext' rfl fun i => ?_
    show (if i < H.size then H'.blk i else Blk.zero) = H.blk i
    split
    · rename_i hi; exact h.same i hi fun h => h.elim
    · rename_i hi; exact (H.out i (by omega)).symm
  · have hs : H'.size = H.size := Nat.le_antisymm (Nat.le_of_not_lt hs) h.size
    rw [gc, if_neg fun k => absurd k.1 (by omega)]
    refine Heap.ext' hs fun i => ?_
    by_cases hi : i < H.size
    · exact h.same i hi fun h => h.elim
    · rw [H.out i (by omega), H'.out i (by omega)]
theorem gc_kept {H H' : Heap} {v : Value} (hv : flatB v = false) : gc H v H' = H' := if_neg fun k => by rw [k.2.1] at hv; cases hv
theorem gc_same {H H' : Heap} (h : H'.size = H.size) (v : Value) : gc H v H' = H' := if_neg fun k => absurd k.1 (by omega)
theorem gc_size {H H' : Heap} {v : Value} (h : H.size ≤ H'.size) (hs : (gc H v H').size = H.size ∨ gc H v H' = H') : H.size ≤ (gc H v H').size := by
  rcases hs with e | e
  · rw [e]; exact Nat.le_refl _
  · rw [e]; exact h
/-- Whatever goes, what is told of old blocks stays. -/
theorem gc_upd {B : Nat → Prop} {H H' : Heap} {v : Value} (h : Upd B H H') : Upd B H (gc H v H') := by
  unfold gc
  split
  · refine ⟨Nat.le_refl _, fun i hi hn => ?_, fun i hi => ?_, fun i hi => ?_, fun i h1 h2 => by have : i < H.size := h2; omega, h.box⟩
    · exact (if_pos hi).trans (h.same i hi hn)
    · exact (congrArg Blk.root (if_pos hi)).trans (h.root i hi)
    · exact (congrArg Blk.es (if_pos hi)).trans (h.es i hi)
  · exact h
theorem gc_blk {H H' : Heap} {v : Value} {i : Nat} (hi : i < H.size) : (gc H v H').blk i = H'.blk i := by
  unfold gc
  split
  · exact if_pos hi
  · rfl

/-! ### Boxes -/

/-- A variable that stands in a block of its own. -/
structure Box (H : Heap) (id : Nat) (cells : List Value) : Prop where
  lt : id < H.size
  es0 : (H.blk id).es = 0
  cells : (H.blk id).cells = cells
  solo : Solo H id

theorem Box.upd {B : Nat → Prop} {H H' : Heap} {id : Nat} {c : List Value} (h : Box H id c) (u : Upd B H H') (hn : ¬ B id) : Box H' id c := by
  have e := u.same id h.lt hn
  refine ⟨Nat.lt_of_lt_of_le h.lt u.size, by rw [e]; exact h.es0, by rw [e]; exact h.cells, Nat.lt_of_lt_of_le h.lt u.size, fun j hj hne => ?_⟩
  rw [u.root id h.lt]
  by_cases hj' : j < H.size
  · rw [u.root j hj']; exact h.solo.2 j hj' hne
  · have h1 := u.new j (by omega) hj
    have h2 := H.rle id
    have h3 := h.lt
    omega
theorem Box.no {H H' : Heap} {id : Nat} {c : List Value} (h : Box H id c) (u : Upd no H H') : Box H' id c := h.upd u fun h => h.elim
theorem Box.set {H : Heap} {id : Nat} {c : List Value} (h : Box H id c) (d : List Value) : Box (H.set id d) id d :=
  ⟨h.lt, by rw [set_es]; exact h.es0, set_self h.lt d, (Solo_set _).2 h.solo⟩
theorem Box.new (H : Heap) (c : List Value) : Box (H.push c 0) H.size c := by
  refine ⟨by simp, by simp, by simp, by simp, fun j hj hne => ?_⟩
  have hj : j < H.size + 1 := hj
  rw [push_old (by omega), push_new]
  have := H.rle j
  show (H.blk j).root ≠ H.size
  omega
theorem Box.change {H : Heap} {id : Nat} {c : List Value} (h : Box H id c) (d : List Value) : Upd (one' id) H (H.set id d) :=
  ⟨Nat.le_refl _, fun i _ hn => set_ne hn d, fun i _ => set_root H id i d, fun i _ => set_es H id i d, fun i h1 h2 => by have : i < H.size := h2; omega, fun i _ hi => by rw [show i = id from hi]; exact h.es0⟩
theorem Upd.set {B : Nat → Prop} {H K : Heap} (h : Upd B H K) {id : Nat} {c : List Value} (hb : Box K id c) (hi : id < H.size → B id) (d : List Value) : Upd B H (K.set id d) :=
  h.trans (hb.change d) fun i hi' e => by
    have e : i = id := e
    subst e
    exact hi hi'
theorem Pe.set {H K : Heap} (h : Pe H K) {id : Nat} {c : List Value} (hb : Box K id c) (d : List Value) : Pe H (K.set id d) := h.trans (hb.change d).pe

/-! ### Slices that are read -/

/-- The address of a place in an element. -/
def el (a : Option Addr) (es k o : Nat) : Value := match a with
  | some ⟨b, off, none⟩ => .pointer (some ⟨b, off + k * es + o, none⟩)
  | _ => bot

/-- A slice that reads as a list: each element's cells. -/
def Sl {α : Type} (es : Nat) (enc : α → List Value) (H : Heap) (a : Option Addr) (l : List α) : Prop :=
  l.length < 2 ^ 44 ∧ ((a = none ∧ l = []) ∨ ∃ b off, a = some ⟨b, off, none⟩ ∧ b < H.size ∧ (H.blk b).es = es ∧ ∀ k (h : k < l.length), window (H.blk b).cells (off + k * es) es = some (enc l[k]))

theorem Sl.pe {α : Type} {es : Nat} {enc : α → List Value} {H K : Heap} {a : Option Addr} {l : List α} (h : Sl es enc H a l) (he : es ≠ 0) (p : Pe H K) : Sl es enc K a l := by
  refine ⟨h.1, h.2.imp id ?_⟩
  rintro ⟨b, off, ha, hb, hes, hw⟩
  have e := p.sl b hb (by rw [hes]; exact he)
  exact ⟨b, off, ha, Nat.lt_of_lt_of_le hb p.size, by rw [e]; exact hes, fun k hk => by rw [e]; exact hw k hk⟩
theorem Sl.nil {α : Type} (es : Nat) (enc : α → List Value) (H : Heap) : Sl es enc H none [] := ⟨by simp, .inl ⟨rfl, rfl⟩⟩

theorem window_eq' {l r : List Value} {o n : Nat} (h : window l o n = some r) : o + n ≤ l.length ∧ r = (l.drop o).take n := by
  unfold window at h
  split at h
  · rename_i hl; exact ⟨hl, (Option.some.inj h).symm⟩
  · cases h
theorem window_window {l r : List Value} {o n p m : Nat} (h : window l o n = some r) (hm : p + m ≤ n) : window l (o + p) m = window r p m := by
  obtain ⟨h1, rfl⟩ := window_eq' h
  unfold window
  rw [if_pos (by omega), if_pos (by simp; omega)]
  congr 1
  rw [List.drop_take, List.take_take, List.drop_drop, Nat.min_eq_left (by omega)]
theorem window_length {l r : List Value} {o n : Nat} (h : window l o n = some r) : r.length = n := by
  obtain ⟨h1, rfl⟩ := window_eq' h
  simp; omega

section
variable {α : Type} {es : Nat} {enc : α → List Value} {H : Heap} {a : Option Addr} {l : List α}
theorem Sl.ix (h : Sl es enc H a l) {P : Program} {t : TypeId} {sz : Nat} {ag : Bool} {z : List Value} {e by_ : Nat} (hti : TI P t = some ⟨sz, ag, z, .slice e es by_⟩) (c : Nat) (kd : IntKind) (i : Int) (h0 : 0 ≤ i) (h1 : i < l.length) :
    indexAddr P t (.slice a l.length c) (.int kd i) = some (el a es i.toNat 0) := by
  rcases h.2 with ⟨_, rfl⟩ | ⟨b, off, rfl, hb, hes, hw⟩
  · simp at h1; omega
  · unfold indexAddr
    rw [hti]
    simp only [h0, h1, and_self, if_true, el, Nat.add_zero]
theorem Sl.ld (h : Sl es enc H a l) {K : Heap} (p : Pe H K) (he : 0 < es) (k o m : Nat) (hk : k < l.length) (hm : o + m ≤ es) (e : Nat → Value) (loc : Nat → List Value) (g n : Nat) :
    (St.mk e loc g K n).cellsAt (el a es k o) m = window (enc l[k]) o m := by
  rcases (h.pe (by omega) p).2 with ⟨_, rfl⟩ | ⟨b, off, rfl, hb, hes, hw⟩
  · simp at hk
  · show (if b < K.size then window (K.blk b).cells (off + k * es + o) m else none) = _
    rw [if_pos hb]
    exact window_window (hw k hk) hm
theorem Sl.at_ (h : Sl es enc H a l) (k o o' : Nat) (hk : k < l.length) : atOff (el a es k o) o' = some (el a es k (o + o')) := by
  rcases h.2 with ⟨_, rfl⟩ | ⟨b, off, rfl, _⟩
  · simp at hk
  · show some (Value.pointer (some ⟨b, off + k * es + o + o', none⟩)) = some (.pointer (some ⟨b, off + k * es + (o + o'), none⟩))
    rw [Nat.add_assoc]
theorem Sl.len_enc (h : Sl es enc H a l) (k : Nat) (hk : k < l.length) : (enc l[k]).length = es := by
  rcases h.2 with ⟨_, rfl⟩ | ⟨b, off, rfl, hb, hes, hw⟩
  · simp at hk
  · exact window_length (hw k hk)
end
@[simp] theorem locOf_el (a : Option Addr) (es k o : Nat) : locOf (el a es k o) = none := by
  unfold el
  split <;> rfl
theorem window_whole (l : List Value) (n : Nat) (h : l.length = n) : window l 0 n = some l := by
  subst h
  unfold window
  rw [if_pos (by omega)]
  simp

/-! ### Slices that are made -/

/-- A slice that was made since the heap had 'lo' blocks; it is the last of its chain. -/
def Ow {α : Type} (lo es : Nat) (enc : α → List Value) (H : Heap) (a : Option Addr) (l : List α) : Prop :=
  (a = none ∧ l = []) ∨ ∃ b, a = some ⟨b, 0, none⟩ ∧ b < H.size ∧ (H.blk b).es = es ∧ (H.blk b).cells = (l.map enc).flatten ∧ lo ≤ (H.blk b).root

theorem Ow.pe {α : Type} {lo es : Nat} {enc : α → List Value} {H K : Heap} {a : Option Addr} {l : List α} (h : Ow lo es enc H a l) (he : es ≠ 0) (p : Pe H K) : Ow lo es enc K a l := by
  refine h.imp id ?_
  rintro ⟨b, ha, hb, hes, hc, hr⟩
  have e := p.sl b hb (by rw [hes]; exact he)
  exact ⟨b, ha, Nat.lt_of_lt_of_le hb p.size, by rw [e]; exact hes, by rw [e]; exact hc, by rw [e]; exact hr⟩
theorem Ow.nil {α : Type} (lo es : Nat) (enc : α → List Value) (H : Heap) : Ow lo es enc H none [] := .inl ⟨rfl, rfl⟩

theorem flat_window {α : Type} {es : Nat} {enc : α → List Value} : ∀ (l : List α) (k : Nat) (h : k < l.length), (∀ x ∈ l, (enc x).length = es) → window (l.map enc).flatten (k * es) es = some (enc l[k])
  | [], k, h, _ => by simp at h
  | x :: r, 0, h, hl => by
    have hx := hl x (by simp)
    unfold window
    rw [if_pos (by simp [hx])]
    simp [← hx]
  | x :: r, k + 1, h, hl => by
    have hx := hl x (by simp)
    have ih := flat_window r k (by simpa using h) fun y hy => hl y (by simp [hy])
    obtain ⟨h1, h2⟩ := window_eq' ih
    simp only [List.map_cons, List.flatten_cons, List.getElem_cons_succ]
    unfold window
    have e : (k + 1) * es = es + k * es := by rw [Nat.succ_mul, Nat.add_comm]
    rw [e, if_pos (by rw [List.length_append, hx]; omega), h2]
    congr 1
    rw [← List.drop_drop]
    congr 2
    rw [← hx]
    exact List.drop_left
theorem flat_len {α : Type} {es : Nat} {enc : α → List Value} : ∀ (l : List α), (∀ x ∈ l, (enc x).length = es) → ((l.map enc).flatten).length = l.length * es
  | [], _ => by simp
  | x :: r, hl => by
    have hx := hl x (by simp)
    have ih := flat_len r fun y hy => hl y (by simp [hy])
    simp only [List.map_cons, List.flatten_cons, List.length_append, hx, ih, List.length_cons, Nat.succ_mul]
    omega
theorem Ow.sl {α : Type} {lo es : Nat} {enc : α → List Value} {H : Heap} {a : Option Addr} {l : List α} (h : Ow lo es enc H a l) (hl : ∀ x ∈ l, (enc x).length = es) (hs : l.length < 2 ^ 44) : Sl es enc H a l := by
  refine ⟨hs, h.imp id ?_⟩
  rintro ⟨b, ha, hb, hes, hc, hr⟩
  exact ⟨b, 0, ha, hb, hes, fun k hk => by rw [hc, Nat.zero_add]; exact flat_window l k hk hl⟩
theorem Ow.new {α : Type} {lo es : Nat} {enc : α → List Value} {K : Heap} (h : lo ≤ K.size) (l : List α) {c : List Value} (hc : c = (l.map enc).flatten) : Ow lo es enc (K.push c es) (some ⟨K.size, 0, none⟩) l := by
  subst hc
  exact .inr ⟨K.size, rfl, by simp, by simp, by simp, by simpa using h⟩

/-- The heap behind an append. -/
def apH (H : Heap) (a : Option Addr) (len es : Nat) (news : List Value) : Heap := match a with
  | some ⟨b, off, _⟩ => H.grow b off (len * es) es news
  | none => H.push news es
@[simp] theorem apH_size (H : Heap) (a : Option Addr) (len es : Nat) (news : List Value) : (apH H a len es news).size = H.size + 1 := by
  unfold apH
  split <;> rfl

theorem blk_grow (H : Heap) (b off n es : Nat) (c : List Value) (i : Nat) : (H.grow b off n es c).blk i = if H.size < i then Blk.zero else if i = H.size then ⟨((H.blk b).cells.drop off).take n ++ c, es, if b ≤ H.size then (H.blk b).root else 0, (H.blk b).roff + off⟩
    else (H.blk i).cut (H.blk b).root ((H.blk b).roff + off + n) := rfl
theorem grow_old {H : Heap} {b j : Nat} (hj : j < H.size) (hr : (H.blk j).root ≠ (H.blk b).root) (off n es : Nat) (c : List Value) : (H.grow b off n es c).blk j = H.blk j := by
  rw [blk_grow, if_neg (by omega), if_neg (by omega)]
  unfold Blk.cut
  rw [if_neg hr]
theorem cut_es (b : Blk) (r n : Nat) : (b.cut r n).es = b.es := by
  unfold Blk.cut
  split <;> rfl
theorem Upd.ap {α : Type} {B : Nat → Prop} {Hb K : Heap} (h : Upd B Hb K) {lo es : Nat} {enc : α → List Value} {a : Option Addr} {l : List α} (ho : Ow lo es enc K a l) (hlo : Hb.size ≤ lo) (len es' : Nat) (news : List Value) : Upd B Hb (apH K a len es' news) := by
  rcases ho with ⟨rfl, _⟩ | ⟨b, rfl, hb, hes, hc, hr⟩
  · exact h.push news es'
  · have old : ∀ i, i < Hb.size → (K.grow b 0 (len * es') es' news).blk i = K.blk i := fun i hi => grow_old (Nat.lt_of_lt_of_le hi h.size) (by
      rw [h.root i hi]
      have := Hb.rle i
      omega) _ _ _ _
    refine ⟨by simp; have := h.size; omega, fun i hi hn => (old i hi).trans (h.same i hi hn), fun i hi => (congrArg Blk.root (old i hi)).trans (h.root i hi), fun i hi => (congrArg Blk.es (old i hi)).trans (h.es i hi), fun i h1 h2 => ?_, h.box⟩
    show Hb.size ≤ ((K.grow b 0 (len * es') es' news).blk i).root
    have h2 : i < (K.grow b 0 (len * es') es' news).size := h2
    rw [grow_size] at h2
    rw [blk_grow]
    by_cases hi : i = K.size
    · subst hi
      rw [if_neg (Nat.lt_irrefl _), if_pos rfl]
      show Hb.size ≤ if b ≤ K.size then _ else _
      rw [if_pos (by omega)]
      omega
    · rw [if_neg (by omega), if_neg hi, Blk.cut_root]
      exact h.new i h1 (by omega)
theorem Ow.ap {α : Type} {lo es : Nat} {enc : α → List Value} {K : Heap} {a : Option Addr} {l : List α} (ho : Ow lo es enc K a l) (hl : ∀ x ∈ l, (enc x).length = es) (hlo : lo ≤ K.size) {len : Nat} (hlen : l.length = len) (ns : List α) {news : List Value} (hn : news = (ns.map enc).flatten) :
    Ow lo es enc (apH K a len es news) (some ⟨K.size, 0, none⟩) (l ++ ns) := by
  subst hn hlen
  rcases ho with ⟨rfl, rfl⟩ | ⟨b, rfl, hb, hes, hc, hr⟩
  · exact Ow.new hlo _ rfl
  · refine .inr ⟨K.size, rfl, by simp, ?_, ?_, ?_⟩
    all_goals
      simp only [apH, blk_grow, if_neg (Nat.lt_irrefl _), if_true]
    · rw [hc, ← flat_len l hl, List.drop_zero, List.take_length, List.map_append, List.flatten_append]
    · rw [if_pos (by omega)]
      exact hr

theorem append_Ow {α : Type} {P : Program} {t tx : TypeId} {sz : Nat} {ag : Bool} {z : List Value} {e_ by_ es : Nat} (hti : TI P t = some ⟨sz, ag, z, .slice e_ es by_⟩) {lo : Nat} {enc : α → List Value} {H : Heap} {a : Option Addr} {l : List α} (ho : Ow lo es enc H a l)
    (hl : ∀ x ∈ l, (enc x).length = es) (he : 0 < es) {K : Heap} (hp : Pe H K) {e : Nat → Value} {loc : Nat → List Value} {g n : Nat} {y : Value} (hsrc : srcOk (P.underlying tx) y = true) {m : Nat} {news : List Value} (hn : newsOf (St.mk e loc g K n) es y = some (m, news)) (hm : m ≠ 0)
    (room : (l.length + m) * (by_ + es + 1) ≤ roomMax) :
    append P (St.mk e loc g K n) t tx (.slice a l.length 0) y = some (.slice (some ⟨K.size, 0, none⟩) (l.length + m) 0, apH K a l.length es news) := by
  unfold append
  rw [hti]
  simp only [hsrc, Bool.true_eq_false, if_false, hn]
  rcases ho.pe (by omega) hp with ⟨rfl, rfl⟩ | ⟨b, rfl, hb, hes, hc, hr⟩
  · simp only [List.length_nil, Nat.zero_add] at room ⊢
    rw [if_neg hm, if_pos room]
    rfl
  · simp only [if_neg hm]
    rw [if_pos ⟨room, hb, hes⟩]
    by_cases h0 : l.length = 0
    · rw [if_pos h0, if_neg (by decide), h0, Nat.zero_add]
      show _ = some (_, K.grow b 0 (0 * es) es news)
      rw [Nat.zero_mul]
    · rw [if_neg h0]
      have hw : window (K.blk b).cells 0 (l.length * es) = some (l.map enc).flatten := by
        rw [hc]
        exact window_whole _ _ (flat_len l hl)
      rw [hw]
      simp only [ne_eq, not_true_eq_false, false_and, if_false]
      rfl
end Go.Abs
