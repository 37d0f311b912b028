/-
  THE ABSTRACT MACHINE AND THE MODEL: what is made and written in memory keeps the two together.
-/
import Derived.Test.YtifiajbjfoigcaaGreatAbsRel
namespace Go.Abs
open Go

/-! ### Lists -/

theorem splice_get (l : List Value) (off : Nat) (vs : List Value) (h : off + vs.length ≤ l.length) (i : Nat) :
    (splice l off vs)[i]? = if off ≤ i ∧ i < off + vs.length then vs[i - off]? else l[i]? := by
  unfold splice
  have h1 : (l.take off).length = off := by simp; omega
  rw [List.append_assoc, List.getElem?_append, h1]
  by_cases a : i < off
  · rw [if_pos a, if_neg (by omega), List.getElem?_take, if_pos a]
  · rw [if_neg a, List.getElem?_append]
    by_cases b : i - off < vs.length
    · rw [if_pos b, if_pos (by omega)]
    · rw [if_neg b, if_neg (by omega), List.getElem?_drop]
      congr 1
      omega

theorem splice_length (l : List Value) (off : Nat) (vs : List Value) (h : off + vs.length ≤ l.length) : (splice l off vs).length = l.length := by
  unfold splice
  simp
  omega

theorem window_some {l : List Value} {off n : Nat} {r : List Value} (h : window l off n = some r) : off + n ≤ l.length ∧ r.length = n ∧ ∀ i, i < n → r[i]? = l[off + i]? := by
  unfold window at h
  split at h
  · rename_i hb
    cases h
    refine ⟨hb, by simp; omega, fun i hi => ?_⟩
    rw [List.getElem?_take, if_pos hi, List.getElem?_drop]
  · cases h

theorem Cells.window {m : Map} {l r : List Value} {C : Array Value} {s off n : Nat} (h : Cells m l C s) (hw : window l off n = some r) : Cells m r C (s + off) := by
  obtain ⟨h1, h2, h3⟩ := window_some hw
  intro i v hv
  have hi : i < n := by
    rw [← h2]
    exact (List.getElem?_eq_some_iff.1 hv).1
  rw [h3 i hi] at hv
  obtain ⟨a, cv, hc, k⟩ := h _ v hv
  exact ⟨a, cv, by rw [Nat.add_assoc]; exact hc, k⟩

theorem Cells.take {m : Map} {l : List Value} {C : Array Value} {s n : Nat} (h : Cells m l C s) : Cells m (l.take n) C s := by
  intro i v hv
  rw [List.getElem?_take] at hv
  split at hv
  · exact h i v hv
  · cases hv

theorem Cells.append {m : Map} {l r : List Value} {C : Array Value} {s : Nat} (h : Cells m l C s) (k : Cells m r C (s + l.length)) : Cells m (l ++ r) C s := by
  intro i v hv
  rw [List.getElem?_append] at hv
  split at hv
  · exact h i v hv
  · obtain ⟨a, cv, hc, x⟩ := k _ v hv
    refine ⟨a, cv, ?_, x⟩
    rw [← hc]
    congr 1
    omega

/-! ### Arrays -/

def setA (C : Array Value) (o : Nat) : List Value → Array Value
  | [] => C
  | v :: r => setA (C.setIfInBounds o v) (o + 1) r

theorem setA_size (vs : List Value) : ∀ (C : Array Value) (o : Nat), (setA C o vs).size = C.size := by
  induction vs with
  | nil => intro C o; rfl
  | cons v r ih => intro C o; simp [setA, ih]

theorem setA_get (vs : List Value) : ∀ (C : Array Value) (o i : Nat),
    (setA C o vs)[i]? = if o ≤ i ∧ i < o + vs.length ∧ i < C.size then vs[i - o]? else C[i]? := by
  induction vs with
  | nil => intro C o i; simp only [setA]; rw [if_neg (by simp; omega)]
  | cons v r ih =>
    intro C o i
    simp only [setA, ih, Array.size_setIfInBounds, List.length_cons]
    by_cases b : o + 1 ≤ i ∧ i < o + 1 + r.length ∧ i < C.size
    · rw [if_pos b, if_pos (by omega), show i - o = (i - (o + 1)) + 1 by omega, List.getElem?_cons_succ]
    · rw [if_neg b, Array.getElem?_setIfInBounds]
      by_cases a : o = i
      · subst a
        by_cases hi : o < C.size
        · simp [hi]
        · simp [hi]
      · rw [if_neg a, if_neg (by omega)]

theorem setCells_heap (b : Nat) (vs : List Value) : ∀ (o : Nat) (w : World) (C : Array Value) (t : TypeId) (f : Nat × Nat), w.heap[b]? = some (Obj.cells C t f) →
    (w.setCells b o vs).heap[b]? = some (Obj.cells (setA C o vs) t f) := by
  induction vs with
  | nil => intro o w C t f h; exact h
  | cons v r ih =>
    intro o w C t f h
    simp only [World.setCells, setA]
    apply ih
    simp [World.setCell, Array.getElem?_modify, h]

theorem setCells_heap_ne (b k : Nat) (hk : k ≠ b) (vs : List Value) : ∀ (o : Nat) (w : World), (w.setCells b o vs).heap[k]? = w.heap[k]? := by
  induction vs with
  | nil => intro o w; rfl
  | cons v r ih =>
    intro o w
    simp only [World.setCells]
    rw [ih]
    exact RowKit.Below.heap_setCell _ _ _ _ (by simpa using hk)

theorem setCells_size (b : Nat) (vs : List Value) : ∀ (o : Nat) (w : World), (w.setCells b o vs).heap.size = w.heap.size := by
  induction vs with
  | nil => intro o w; rfl
  | cons v r ih => intro o w; simp only [World.setCells]; rw [ih]; simp [World.setCell]

theorem setCells_rest (b : Nat) (vs : List Value) : ∀ (o : Nat) (w : World), (w.setCells b o vs).os = w.os ∧ (w.setCells b o vs).tape = w.tape ∧ (w.setCells b o vs).output = w.output ∧ (w.setCells b o vs).drawn = w.drawn := by
  induction vs with
  | nil => intro o w; exact ⟨rfl, rfl, rfl, rfl⟩
  | cons v r ih => intro o w; simp only [World.setCells]; exact ih _ _

theorem Cells.setA_in {m : Map} {l vs cvs : List Value} {C : Array Value} {s off : Nat} (h : Cells m l C s) (hlen : cvs.length = vs.length)
    (hb : off + vs.length ≤ l.length) (hv : ∀ (i : Nat) v cv, vs[i]? = some v → cvs[i]? = some cv → one v = true ∧ V m v cv) :
    Cells m (splice l off vs) (setA C (s + off) cvs) s := by
  intro i v hi
  rw [splice_get _ _ _ hb] at hi
  split at hi
  · rename_i hr
    have hcv : i - off < cvs.length := by omega
    have h0 := hv (i - off) v cvs[i - off] hi (by simp [hcv])
    refine ⟨h0.1, cvs[i - off], ?_, h0.2⟩
    have hin : i < l.length := by omega
    obtain ⟨_, cv0, hc0, _⟩ := h i l[i] (by simp [hin])
    have hsz : s + i < C.size := (Array.getElem?_eq_some_iff.1 hc0).1
    rw [setA_get, if_pos (by omega), show s + i - (s + off) = i - off by omega]
    simp [hcv]
  · rename_i hr
    obtain ⟨a, cv, hc, k⟩ := h i v hi
    refine ⟨a, cv, ?_, k⟩
    rw [setA_get, if_neg (by omega)]
    exact hc

theorem Cells.setA_out {m : Map} {l cvs : List Value} {C : Array Value} {s o : Nat} (h : Cells m l C s) (ho : s + l.length ≤ o) : Cells m l (setA C o cvs) s := by
  intro i v hi
  obtain ⟨a, cv, hc, k⟩ := h i v hi
  have : i < l.length := (List.getElem?_eq_some_iff.1 hi).1
  exact ⟨a, cv, by rw [setA_get, if_neg (by omega)]; exact hc, k⟩


/-! ### Blocks -/

/-- The same block, less cells at its end. -/
def Sub (b' b : Blk) : Prop := b'.es = b.es ∧ b'.root = b.root ∧ b'.roff = b.roff ∧ (b'.cells = b.cells ∨ ∃ n, b'.cells = b.cells.take n)

theorem Sub.refl (b : Blk) : Sub b b := ⟨rfl, rfl, rfl, .inl rfl⟩

theorem Sub.cut (b : Blk) (r n : Nat) : Sub (b.cut r n) b := by
  unfold Blk.cut
  split
  · exact ⟨rfl, rfl, rfl, .inr ⟨_, rfl⟩⟩
  · exact Sub.refl b

theorem Sub.len {b' b : Blk} (h : Sub b' b) : b'.cells.length ≤ b.cells.length := by
  rcases h.2.2.2 with e | ⟨n, e⟩
  · rw [e]; exact Nat.le_refl _
  · rw [e, List.length_take]; exact Nat.min_le_right _ _
theorem Cells.le {m : Map} {l : List Value} {C : Array Value} (h : Cells m l C 0) : l.length ≤ C.size := by
  cases hl : l.length with
  | zero => exact Nat.zero_le _
  | succ n =>
    obtain ⟨_, cv, hc, _⟩ := h n (l[n]'(by omega)) (List.getElem?_eq_getElem (by omega))
    have := (Array.getElem?_eq_some_iff.1 hc).1
    omega
theorem free.in {f : Nat × Nat} {C : Array Value} (h : free f C) {e : Ent} (ht : e.top ≤ C.size) : freeIn f e := fun o _ h2 => h o (by omega)
theorem Sub.cells {m : Map} {b' b : Blk} (h : Sub b' b) {C : Array Value} {s : Nat} (k : Cells m b.cells C s) : Cells m b'.cells C s := by
  obtain ⟨_, _, _, h | ⟨n, h⟩⟩ := h
  · rw [h]; exact k
  · rw [h]; exact k.take

theorem Cells.nil (m : Map) (C : Array Value) (s : Nat) : Cells m [] C s := fun i v h => by simp at h

theorem Cells.cut_out {m : Map} {l cvs : List Value} {C : Array Value} {s o n : Nat} (h : Cells m l C s) (ho : n = 0 ∨ s + n ≤ o) : Cells m (l.take n) (setA C o cvs) s := by
  rcases ho with rfl | ho
  · rw [List.take_zero]; exact Cells.nil _ _ _
  · refine Cells.setA_out h.take ?_
    simp only [List.length_take]
    omega

theorem fr_setCells {m : Map} {β : LMap} {n g : Nat} {w : World} {id : Nat} {e : Ent} (he : m id = some e) {C : Array Value} {t : TypeId} {f : Nat × Nat}
    (h1 : w.heap[e.b]? = some (Obj.cells C t f)) {o : Nat} {cvs : List Value} (ho : e.s ≤ o ∧ o + cvs.length ≤ e.top) : Fr m β n g w m β (w.setCells e.b o cvs) := by
  have hset := setCells_heap e.b cvs o w C t f h1
  have hne : ∀ k, k ≠ e.b → (w.setCells e.b o cvs).heap[k]? = w.heap[k]? := fun k hk => setCells_heap_ne _ _ hk _ _ _
  have hrest := setCells_rest e.b cvs o w
  refine ⟨hrest.1, hrest.2.1, hrest.2.2.1, by rw [setCells_size]; exact Nat.le_refl _, fun _ _ => rfl, fun _ _ => rfl, fun i q hq => .inl ⟨i, q, hq, rfl⟩, fun _ _ x => .inl x, ?_, ?_, fun i q hq => .inl ⟨i, q, hq, rfl, Nat.le_refl _, Nat.le_refl _⟩, ?_⟩
  case refine_3 =>
    intro k C0 C' t0 t' f0 f' hk hk' q hq _
    by_cases hkb : k = e.b
    · subst hkb
      rw [h1] at hk; cases hk
      rw [hset] at hk'; cases hk'
      have := hq id e he rfl
      rw [setA_get, if_neg (by omega)]
    · rw [hne k hkb, hk] at hk'; cases hk'; rfl
  · intro k hk h6 _
    exact hne k (fun hk' => h6 id e he hk'.symm)
  · intro k C' t' f' hk
    by_cases hkb : k = e.b
    · subst hkb
      rw [h1] at hk; cases hk
      exact ⟨_, hset, setA_size _ _ _⟩
    · exact ⟨C', by rw [hne k hkb]; exact hk, rfl⟩

theorem BlkRel.sub {m : Map} {b' b : Blk} {e : Ent} {w : World} (h : BlkRel m b e w) (k : Sub b' b) : BlkRel m b' e w := by
  obtain ⟨C, t, f, h1, h2, h3, h4, h5⟩ := h
  exact ⟨C, t, f, h1, ⟨by have := k.len; omega, h2.2⟩, h3, h4.trans k.1.symm, k.cells h5⟩

theorem BlkRel.mono {m m' : Map} (hm : Le m m') {b : Blk} {e : Ent} {w : World} (h : BlkRel m b e w) : BlkRel m' b e w := by
  obtain ⟨C, t, f, h1, h2, h3, h4, h5⟩ := h
  exact ⟨C, t, f, h1, h2, h3, h4, h5.mono hm⟩

theorem BlkRel.world {m : Map} {b : Blk} {e : Ent} {w w' : World} (h : BlkRel m b e w) (k : w'.heap[e.b]? = w.heap[e.b]?) : BlkRel m b e w' := by
  obtain ⟨C, t, f, h1, h2, h3, h4, h5⟩ := h
  exact ⟨C, t, f, k.trans h1, h2, h3, h4, h5⟩

theorem BlkRel.lt {m : Map} {b : Blk} {e : Ent} {w : World} (h : BlkRel m b e w) : e.b < w.heap.size := by
  obtain ⟨C, t, f, h1, _⟩ := h
  exact (Array.getElem?_eq_some_iff.1 h1).1

theorem LRel.lt {m : Map} {β : LMap} {loc : Nat → List Value} {gen : Nat} {w : World} (h : LRel m β loc gen w) {l b : Nat} (hb : β l = some b) : b < w.heap.size := by
  obtain ⟨C, t, f, h1, _⟩ := h.blk l b hb
  exact (Array.getElem?_eq_some_iff.1 h1).1

theorem LRel.world {m m' : Map} (hm : Le m m') {β : LMap} {loc : Nat → List Value} {gen : Nat} {w w' : World} (h : LRel m β loc gen w)
    (k : ∀ l b, β l = some b → w'.heap[b]? = w.heap[b]?) (hs : ∀ l b id e, β l = some b → m' id = some e → e.b ≠ b) : LRel m' β loc gen w' where
  dom := h.dom
  blk l b hb := by
    obtain ⟨C, t, f, h1, h2, h3, h4⟩ := h.blk l b hb
    exact ⟨C, t, f, (k l b hb).trans h1, h2, h3, h4.mono hm⟩
  inj := h.inj
  sep := hs

def put (m : Map) (id : Nat) (e : Ent) : Map := fun i => if i = id then some e else m i

theorem Le.put {m : Map} {n : Nat} (hd : ∀ id e, m id = some e → id < n) (e : Ent) : Le m (put m n e) := fun id f h => by
  have := hd id f h
  unfold Abs.put
  rw [if_neg (by omega)]
  exact h

theorem push_get (a : Array Obj) (o : Obj) (k : Nat) (h : k < a.size) : (a.push o)[k]? = a[k]? := by
  rw [Array.getElem?_push, if_neg (by omega)]

theorem push_get_size (a : Array Obj) (o : Obj) : (a.push o)[a.size]? = some o := by
  rw [Array.getElem?_push, if_pos rfl]

/-- The streams of two worlds are one. -/
def Still (w w' : World) : Prop := w'.os = w.os ∧ w'.tape = w.tape ∧ w'.output = w.output

/-- A new block of the world stands for a new one of the heap. -/
theorem rel_alloc {m : Map} {β : LMap} {H H' : Heap} {loc : Nat → List Value} {gen : Nat} {w w' : World} (h : HRel m H w) (hl : LRel m β loc gen w)
    (hsz : H'.size = H.size + 1) (hsub : ∀ i, i < H.size → Sub (H'.blk i) (H.blk i))
    (C : Array Value) (t : TypeId) (f : Nat × Nat) (hC : Cells m (H'.blk H.size).cells C 0) (hf : free f C)
    (hw : w'.heap = w.heap.push (Obj.cells C t f)) (hst : Still w w') :
    HRel (put m H.size ⟨w.heap.size, 0, (H'.blk H.size).es, C.size⟩) H' w' ∧ LRel (put m H.size ⟨w.heap.size, 0, (H'.blk H.size).es, C.size⟩) β loc gen w' ∧
      Le m (put m H.size ⟨w.heap.size, 0, (H'.blk H.size).es, C.size⟩) ∧ Fr m β H.size gen w (put m H.size ⟨w.heap.size, 0, (H'.blk H.size).es, C.size⟩) β w' := by
  have hle : Le m (put m H.size ⟨w.heap.size, 0, (H'.blk H.size).es, C.size⟩) := Le.put h.dom _
  have hput : ∀ id e, put m H.size ⟨w.heap.size, 0, (H'.blk H.size).es, C.size⟩ id = some e → (id = H.size ∧ e = ⟨w.heap.size, 0, (H'.blk H.size).es, C.size⟩) ∨ (id < H.size ∧ m id = some e) := by
    intro id e he
    unfold put at he
    split at he
    · cases he; exact .inl ⟨by assumption, rfl⟩
    · exact .inr ⟨h.dom _ _ he, he⟩
  have hold : ∀ k, k < w.heap.size → w'.heap[k]? = w.heap[k]? := fun k hk => by rw [hw]; exact push_get _ _ _ hk
  have hnew : w'.heap[w.heap.size]? = some (Obj.cells C t f) := by rw [hw]; exact push_get_size _ _
  refine ⟨⟨?_, ?_, ?_⟩, ?_, hle, ?_⟩
  · intro id e he
    rcases hput id e he with ⟨rfl, _⟩ | ⟨hi, _⟩ <;> omega
  · intro id e he
    rcases hput id e he with ⟨rfl, rfl⟩ | ⟨hi, hm⟩
    · exact ⟨C, t, f, hnew, ⟨by have := hC.le; show 0 + _ ≤ C.size; omega, Nat.le_refl _⟩, hf.in (Nat.le_refl _), rfl, hC.mono hle⟩
    · exact (((h.blk id e hm).sub (hsub id hi)).mono hle).world (hold _ (h.blk id e hm).lt)
  · intro i j e q hi hj hb
    rcases hput i e hi with ⟨rfl, rfl⟩ | ⟨hi, hm⟩ <;> rcases hput j q hj with ⟨rfl, rfl⟩ | ⟨hj, hm'⟩
    · exact ⟨rfl, rfl⟩
    · have := (h.blk j q hm').lt
      simp only at hb
      omega
    · have := (h.blk i e hm).lt
      simp only at hb
      omega
    · have a := hsub i hi
      have b := hsub j hj
      rw [a.2.1, b.2.1, a.2.2.1, b.2.2.1]
      exact h.alias i j e q hm hm' hb
  · refine hl.world hle (fun l b hb => hold b (hl.lt hb)) fun l b id e hb he => ?_
    rcases hput id e he with ⟨rfl, rfl⟩ | ⟨hi, hm⟩
    · have := hl.lt hb
      simp only
      omega
    · exact hl.sep l b id e hb hm
  · refine ⟨hst.1, hst.2.1, hst.2.2, by rw [hw]; simp, ?_, fun _ _ => rfl, ?_, fun _ _ x => .inl x, fun b hb _ _ => hold b hb, ?_, fun id e he => ?_, fun b C0 C' t0 t' f0 f' hb hb' o _ _ => by rw [hold b (Array.getElem?_eq_some_iff.1 hb).1, hb] at hb'; cases hb'; rfl⟩
    case refine_4 =>
      rcases hput id e he with ⟨rfl, rfl⟩ | ⟨hi, hm⟩
      · exact .inr (Nat.le_refl _)
      · exact .inl ⟨id, e, hm, rfl, Nat.le_refl _, Nat.le_refl _⟩
    · intro id hi
      unfold put
      rw [if_neg (by omega)]
    · intro id e he
      rcases hput id e he with ⟨rfl, rfl⟩ | ⟨hi, hm⟩
      · exact .inr (Nat.le_refl _)
      · exact .inl ⟨id, e, hm, rfl⟩
    · intro b C' t' f' hb
      exact ⟨C', by rw [hold b (Array.getElem?_eq_some_iff.1 hb).1]; exact hb, rfl⟩

/-- A new block of the world stands for a new variable of the frame. -/
theorem rel_local {m : Map} {β : LMap} {H : Heap} {loc : Nat → List Value} {gen : Nat} {w w' : World} (h : HRel m H w) (hl : LRel m β loc gen w)
    (cells : List Value) (C : Array Value) (t : TypeId) (f : Nat × Nat) (hC : Cells m cells C 0) (hCs : C.size = cells.length) (hf : free f C)
    (hw : w'.heap = w.heap.push (Obj.cells C t f)) (hst : Still w w') :
    HRel m H w' ∧ LRel m (fun l => if l = gen then some w.heap.size else β l) (fun x => if x = gen then cells else loc x) (gen + 1) w' ∧
      LeL β (fun l => if l = gen then some w.heap.size else β l) ∧ Fr m β H.size gen w m (fun l => if l = gen then some w.heap.size else β l) w' := by
  have hold : ∀ k, k < w.heap.size → w'.heap[k]? = w.heap[k]? := fun k hk => by rw [hw]; exact push_get _ _ _ hk
  have hnew : w'.heap[w.heap.size]? = some (Obj.cells C t f) := by rw [hw]; exact push_get_size _ _
  have hput : ∀ l b, (if l = gen then some w.heap.size else β l) = some b → (l = gen ∧ b = w.heap.size) ∨ (l < gen ∧ β l = some b) := by
    intro l b hb
    split at hb
    · cases hb; exact .inl ⟨by assumption, rfl⟩
    · exact .inr ⟨hl.dom _ _ hb, hb⟩
  refine ⟨⟨h.dom, fun id e he => (h.blk id e he).world (hold _ (h.blk id e he).lt), h.alias⟩, ⟨?_, ?_, ?_, ?_⟩, ?_, ?_⟩
  · intro l b hb
    rcases hput l b hb with ⟨rfl, _⟩ | ⟨hi, _⟩ <;> omega
  · intro l b hb
    rcases hput l b hb with ⟨rfl, rfl⟩ | ⟨hi, hb⟩
    · exact ⟨C, t, f, hnew, by simpa using hCs, hf, by simpa using hC⟩
    · obtain ⟨C', t', f', h1, h2, h3, h4⟩ := hl.blk l b hb
      have : l ≠ gen := by omega
      exact ⟨C', t', f', by rw [hold b (hl.lt hb)]; exact h1, by simpa [this] using h2, h3, by simpa [this] using h4⟩
  · intro l k b hb hb'
    rcases hput l b hb with ⟨h1, h2⟩ | ⟨hi, hb1⟩ <;> rcases hput k b hb' with ⟨h3, h4⟩ | ⟨hj, hb2⟩
    · omega
    · have := hl.lt hb2; omega
    · have := hl.lt hb1; omega
    · exact hl.inj l k b hb1 hb2
  · intro l b id e hb he
    rcases hput l b hb with ⟨rfl, rfl⟩ | ⟨hi, hb⟩
    · have := (h.blk id e he).lt; omega
    · exact hl.sep l b id e hb he
  · intro l b hb
    have := hl.dom l b hb
    show (if l = gen then some w.heap.size else β l) = some b
    rw [if_neg (by omega)]
    exact hb
  · refine ⟨hst.1, hst.2.1, hst.2.2, by rw [hw]; simp, fun _ _ => rfl, ?_, fun id e he => .inl ⟨id, e, he, rfl⟩, ?_, fun b hb _ _ => hold b hb, ?_, fun id e he => .inl ⟨id, e, he, rfl, Nat.le_refl _, Nat.le_refl _⟩, fun b C0 C' t0 t' f0 f' hb hb' o _ _ => by rw [hold b (Array.getElem?_eq_some_iff.1 hb).1, hb] at hb'; cases hb'; rfl⟩
    · intro l hlt
      show (if l = gen then some w.heap.size else β l) = β l
      rw [if_neg (by omega)]
    · intro l b hb
      rcases hput l b hb with ⟨rfl, rfl⟩ | ⟨hi, hb⟩
      · exact .inr (Nat.le_refl _)
      · exact .inl hb
    · intro b C' t' f' hb
      exact ⟨C', by rw [hold b (Array.getElem?_eq_some_iff.1 hb).1]; exact hb, rfl⟩

/-- Cells of a block of the heap are written. -/
theorem rel_write {m : Map} {β : LMap} {H : Heap} {loc : Nat → List Value} {gen : Nat} {w : World} (h : HRel m H w) (hl : LRel m β loc gen w)
    {id : Nat} {e : Ent} (he : m id = some e) (off : Nat) (vs cvs : List Value) (hlen : cvs.length = vs.length) (hb : off + vs.length ≤ (H.blk id).cells.length)
    (hv : ∀ (i : Nat) v cv, vs[i]? = some v → cvs[i]? = some cv → one v = true ∧ V m v cv) :
    HRel m (H.write id off vs) (w.setCells e.b (e.s + off) cvs) ∧ LRel m β loc gen (w.setCells e.b (e.s + off) cvs) ∧ Fr m β H.size gen w m β (w.setCells e.b (e.s + off) cvs) := by
  have hid := h.dom id e he
  obtain ⟨C, t, f, h1, h2, h3, h4, h5⟩ := h.blk id e he
  have hset := setCells_heap e.b cvs (e.s + off) w C t f h1
  have hne : ∀ k, k ≠ e.b → (w.setCells e.b (e.s + off) cvs).heap[k]? = w.heap[k]? := fun k hk => setCells_heap_ne _ _ hk _ _ _
  have hrest := setCells_rest e.b cvs (e.s + off) w
  have hblk : ∀ i, i < H.size → (H.write id off vs).blk i = if i = id then { H.blk id with cells := splice (H.blk id).cells off vs } else (H.blk i).cut (H.blk id).root ((H.blk id).roff + off) := by
    intro i hi
    show (if H.size ≤ i then Blk.zero else _) = _
    rw [if_neg (by omega)]
  have hrr : ∀ i, i < H.size → ((H.write id off vs).blk i).root = (H.blk i).root ∧ ((H.write id off vs).blk i).roff = (H.blk i).roff := by
    intro i hi
    rw [hblk i hi]
    by_cases c : i = id
    · rw [if_pos c]; subst c; exact ⟨rfl, rfl⟩
    · rw [if_neg c]; exact ⟨(Sub.cut _ _ _).2.1, (Sub.cut _ _ _).2.2.1⟩
  refine ⟨⟨fun i q hq => h.dom i q hq, ?_, ?_⟩, ?_, ?_⟩
  · intro i q hq
    have hi := h.dom i q hq
    rw [hblk i hi]
    by_cases hiid : i = id
    · subst hiid
      rw [he] at hq; cases hq
      rw [if_pos rfl]
      exact ⟨_, t, f, hset, ⟨by show e.s + (splice (H.blk i).cells off vs).length ≤ _; rw [splice_length _ _ _ hb]; exact h2.1, by rw [setA_size]; exact h2.2⟩, h3, h4, h5.setA_in hlen hb hv⟩
    · rw [if_neg hiid]
      by_cases hbq : q.b = e.b
      · obtain ⟨C', t', f', k1, k2, k3, k4, k5⟩ := h.blk i q hq
        rw [hbq, h1] at k1
        cases k1
        obtain ⟨hr, hs⟩ := h.alias i id q e hq he hbq
        refine ⟨_, t, f, by rw [hbq]; exact hset, ⟨by have := (Sub.cut (H.blk i) (H.blk id).root ((H.blk id).roff + off)).len; omega, by rw [setA_size]; exact k2.2⟩, k3, ?_, ?_⟩
        · rw [(Sub.cut _ _ _).1]; exact k4
        · unfold Blk.cut
          rw [if_pos hr]
          exact k5.cut_out (by omega)
      · exact ((h.blk i q hq).sub (Sub.cut _ _ _)).world (hne _ hbq)
  · intro i j q r hq hr hb'
    rw [(hrr i (h.dom i q hq)).1, (hrr i (h.dom i q hq)).2, (hrr j (h.dom j r hr)).1, (hrr j (h.dom j r hr)).2]
    exact h.alias i j q r hq hr hb'
  · exact hl.world (Le.refl m) (fun l b hb' => hne b (Ne.symm (hl.sep l b id e hb' he))) hl.sep
  · exact fr_setCells he h1 ⟨by omega, by omega⟩

/-- Of a slice's block goes on in its own room. -/
theorem rel_grow {m : Map} {β : LMap} {H : Heap} {loc : Nat → List Value} {gen : Nat} {w : World} (h : HRel m H w) (hl : LRel m β loc gen w)
    {id : Nat} {e : Ent} (he : m id = some e) (off n : Nat) (vs cvs : List Value) (hlen : cvs.length = vs.length) (hb : off + n ≤ (H.blk id).cells.length ∨ n = 0)
    (hroom : e.s + off + n + vs.length ≤ e.top) (hv : ∀ (i : Nat) v cv, vs[i]? = some v → cvs[i]? = some cv → one v = true ∧ V m v cv) :
    HRel (put m H.size ⟨e.b, e.s + off, (H.blk id).es, e.top⟩) (H.grow id off n (H.blk id).es vs) (w.setCells e.b (e.s + off + n) cvs) ∧
      LRel (put m H.size ⟨e.b, e.s + off, (H.blk id).es, e.top⟩) β loc gen (w.setCells e.b (e.s + off + n) cvs) ∧
      Le m (put m H.size ⟨e.b, e.s + off, (H.blk id).es, e.top⟩) ∧
      Fr m β H.size gen w (put m H.size ⟨e.b, e.s + off, (H.blk id).es, e.top⟩) β (w.setCells e.b (e.s + off + n) cvs) := by
  have hid := h.dom id e he
  have hle : Le m (put m H.size ⟨e.b, e.s + off, (H.blk id).es, e.top⟩) := Le.put h.dom _
  have hput : ∀ i q, put m H.size ⟨e.b, e.s + off, (H.blk id).es, e.top⟩ i = some q → (i = H.size ∧ q = ⟨e.b, e.s + off, (H.blk id).es, e.top⟩) ∨ (i < H.size ∧ m i = some q) := by
    intro i q hq
    unfold put at hq
    split at hq
    · cases hq; exact .inl ⟨by assumption, rfl⟩
    · exact .inr ⟨h.dom _ _ hq, hq⟩
  obtain ⟨C, t, f, h1, h2, h3, h4, h5⟩ := h.blk id e he
  have hset := setCells_heap e.b cvs (e.s + off + n) w C t f h1
  have hne : ∀ k, k ≠ e.b → (w.setCells e.b (e.s + off + n) cvs).heap[k]? = w.heap[k]? := fun k hk => setCells_heap_ne _ _ hk _ _ _
  have hold : ∀ i, i < H.size → (H.grow id off n (H.blk id).es vs).blk i = (H.blk i).cut (H.blk id).root ((H.blk id).roff + off + n) := by
    intro i hi
    show (if H.size < i then Blk.zero else if i = H.size then _ else _) = _
    rw [if_neg (by omega), if_neg (by omega)]
  have hnew : (H.grow id off n (H.blk id).es vs).blk H.size = ⟨((H.blk id).cells.drop off).take n ++ vs, (H.blk id).es, (H.blk id).root, (H.blk id).roff + off⟩ := by
    show (if H.size < H.size then Blk.zero else if H.size = H.size then _ else _) = _
    rw [if_neg (by omega), if_pos rfl, if_pos (by omega)]
  have hcut : ∀ i q, m i = some q → BlkRel (put m H.size ⟨e.b, e.s + off, (H.blk id).es, e.top⟩) ((H.blk i).cut (H.blk id).root ((H.blk id).roff + off + n)) q (w.setCells e.b (e.s + off + n) cvs) := by
    intro i q hq
    by_cases hbq : q.b = e.b
    · obtain ⟨C', t', f', k1, k2, k3, k4, k5⟩ := h.blk i q hq
      rw [hbq, h1] at k1
      cases k1
      obtain ⟨hr, hs⟩ := h.alias i id q e hq he hbq
      refine ⟨_, t, f, by rw [hbq]; exact hset, ⟨by have := (Sub.cut (H.blk i) (H.blk id).root ((H.blk id).roff + off + n)).len; omega, by rw [setA_size]; exact k2.2⟩, k3, ?_, ?_⟩
      · rw [(Sub.cut _ _ _).1]; exact k4
      · unfold Blk.cut
        rw [if_pos hr]
        exact (k5.cut_out (by omega)).mono hle
    · exact (((h.blk i q hq).sub (Sub.cut _ _ _)).mono hle).world (hne _ hbq)
  refine ⟨⟨?_, ?_, ?_⟩, ?_, hle, ?_⟩
  · intro i q hq
    show i < H.size + 1
    rcases hput i q hq with ⟨rfl, _⟩ | ⟨hi, _⟩ <;> omega
  · intro i q hq
    rcases hput i q hq with ⟨rfl, rfl⟩ | ⟨hi, hm⟩
    · rw [hnew]
      refine ⟨_, t, f, hset, ⟨?_, by rw [setA_size]; exact h2.2⟩, fun o g1 g2 => h3 o (by have g1 : e.s + off ≤ o := g1; omega) g2, rfl, ?_⟩
      · show e.s + off + (((H.blk id).cells.drop off).take n ++ vs).length ≤ e.top
        have : (((H.blk id).cells.drop off).take n).length ≤ n := by rw [List.length_take]; exact Nat.min_le_left _ _
        rw [List.length_append]
        omega
      refine Cells.mono hle ?_
      show Cells m (((H.blk id).cells.drop off).take n ++ vs) (setA C (e.s + off + n) cvs) (e.s + off)
      have hwl : (((H.blk id).cells.drop off).take n).length = n := by
        simp only [List.length_take, List.length_drop]
        omega
      refine Cells.append ?_ ?_
      · refine Cells.setA_out ?_ (by rw [hwl]; omega)
        intro i v hi
        have hlt : i < n := by rw [← hwl]; exact (List.getElem?_eq_some_iff.1 hi).1
        rw [List.getElem?_take, if_pos hlt, List.getElem?_drop] at hi
        obtain ⟨a, cv, hc, k⟩ := h5 _ v hi
        exact ⟨a, cv, by rw [Nat.add_assoc]; exact hc, k⟩
      · rw [hwl]
        intro i v hi
        have hlt : i < vs.length := (List.getElem?_eq_some_iff.1 hi).1
        have hcv : i < cvs.length := by omega
        have h0 := hv i v cvs[i] hi (by simp [hcv])
        refine ⟨h0.1, cvs[i], ?_, h0.2⟩
        rw [setA_get, if_pos (by omega), show e.s + off + n + i - (e.s + off + n) = i by omega]
        simp [hcv]
    · rw [hold i hi]
      exact hcut i q hm
  · intro i j q r hq hr hb'
    rcases hput i q hq with ⟨rfl, rfl⟩ | ⟨hi, hm⟩ <;> rcases hput j r hr with ⟨rfl, rfl⟩ | ⟨hj, hm'⟩
    · exact ⟨rfl, rfl⟩
    · rw [hnew, hold j hj, (Sub.cut _ _ _).2.1, (Sub.cut _ _ _).2.2.1]
      have := h.alias id j e r he hm' hb'
      exact ⟨this.1, by simp only; omega⟩
    · rw [hnew, hold i hi, (Sub.cut _ _ _).2.1, (Sub.cut _ _ _).2.2.1]
      have := h.alias i id q e hm he hb'
      exact ⟨this.1, by simp only; omega⟩
    · rw [hold i hi, hold j hj, (Sub.cut _ _ _).2.1, (Sub.cut _ _ _).2.2.1, (Sub.cut _ _ _).2.1, (Sub.cut _ _ _).2.2.1]
      exact h.alias i j q r hm hm' hb'
  · refine hl.world hle (fun l b hb' => hne b (Ne.symm (hl.sep l b id e hb' he))) fun l b i q hb' hq => ?_
    rcases hput i q hq with ⟨rfl, rfl⟩ | ⟨hi, hm⟩
    · exact hl.sep l b id e hb' he
    · exact hl.sep l b i q hb' hm
  · have hfr := fr_setCells (β := β) (n := H.size) (g := gen) (o := e.s + off + n) (cvs := cvs) he h1 ⟨by omega, by omega⟩
    refine { hfr with keep := fun i hi => ?_, img := fun i q hq => ?_, img2 := fun i q hq => ?_ }
    · unfold put
      rw [if_neg (by omega)]
    · rcases hput i q hq with ⟨rfl, rfl⟩ | ⟨hi, hm⟩
      · exact .inl ⟨id, e, he, rfl⟩
      · exact .inl ⟨i, q, hm, rfl⟩
    · rcases hput i q hq with ⟨rfl, rfl⟩ | ⟨hi, hm⟩
      · exact .inl ⟨id, e, he, rfl, Nat.le_add_right _ _, Nat.le_refl _⟩
      · exact .inl ⟨i, q, hm, rfl, Nat.le_refl _, Nat.le_refl _⟩

/-- Cells of a variable of the frame are written. -/
theorem rel_lwrite {m : Map} {β : LMap} {H : Heap} {loc : Nat → List Value} {gen : Nat} {w : World} (h : HRel m H w) (hl : LRel m β loc gen w)
    {l b : Nat} (hb : β l = some b) (off : Nat) (vs cvs : List Value) (hlen : cvs.length = vs.length) (ho : off + vs.length ≤ (loc l).length)
    (hv : ∀ (i : Nat) v cv, vs[i]? = some v → cvs[i]? = some cv → one v = true ∧ V m v cv) :
    HRel m H (w.setCells b off cvs) ∧ LRel m β (fun x => if x = l then splice (loc l) off vs else loc x) gen (w.setCells b off cvs) ∧ Fr m β H.size gen w m β (w.setCells b off cvs) := by
  obtain ⟨C, t, f, h1, h2, h3, h4⟩ := hl.blk l b hb
  have hset := setCells_heap b cvs off w C t f h1
  have hne : ∀ k, k ≠ b → (w.setCells b off cvs).heap[k]? = w.heap[k]? := fun k hk => setCells_heap_ne _ _ hk _ _ _
  have hfree : ∀ C', C'.size = C.size → free f C' := fun C' hs o ho => h3 o (hs ▸ ho)
  have hrest := setCells_rest b cvs off w
  refine ⟨⟨h.dom, fun id e he => (h.blk id e he).world (hne _ (hl.sep l b id e hb he)), h.alias⟩, ⟨hl.dom, ?_, hl.inj, hl.sep⟩, ?_⟩
  · intro k b' hb'
    by_cases hk : k = l
    · subst hk
      rw [hb] at hb'; cases hb'
      refine ⟨_, t, f, hset, by rw [setA_size, if_pos rfl, splice_length _ _ _ ho]; exact h2, hfree _ (setA_size _ _ _), ?_⟩
      have := h4.setA_in hlen ho hv
      rw [if_pos rfl]
      simpa using this
    · obtain ⟨C', t', f', k1, k2, k3, k4⟩ := hl.blk k b' hb'
      have hbb : b' ≠ b := fun hbb => hk (hl.inj k l b (hbb ▸ hb') hb)
      refine ⟨C', t', f', by rw [hne _ hbb]; exact k1, by rw [if_neg hk]; exact k2, k3, by rw [if_neg hk]; exact k4⟩
  · refine ⟨hrest.1, hrest.2.1, hrest.2.2.1, by rw [setCells_size]; exact Nat.le_refl _, fun _ _ => rfl, fun _ _ => rfl, fun i q hq => .inl ⟨i, q, hq, rfl⟩, fun _ _ x => .inl x, ?_, ?_, fun i q hq => .inl ⟨i, q, hq, rfl, Nat.le_refl _, Nat.le_refl _⟩, fun k C0 C' t0 t' f0 f' hk hk' o _ hk2 => by
      have hkb : k ≠ b := fun e => hk2 l (by rw [e]; exact hb)
      rw [hne k hkb, hk] at hk'; cases hk'; rfl⟩
    · intro k hk _ h6
      exact hne k (fun hk' => h6 l (hk' ▸ hb))
    · intro k C' t' f' hk
      by_cases hkb : k = b
      · subst hkb
        rw [h1] at hk; cases hk
        exact ⟨_, hset, setA_size _ _ _⟩
      · exact ⟨C', by rw [hne k hkb]; exact hk, rfl⟩

end Go.Abs
