/-
  THE ABSTRACT MACHINE AND THE MODEL: each operation that looks at memory, makes it or writes it.
-/
import Derived.Test.YtifiajbjfoigcaaGreatAbsOp1
import Derived.RowKit
namespace Go.Abs
open Go
set_option linter.unusedSimpArgs false

/-- What the frame and the world are behind an operation. -/
structure Beh (m : Map) (β : LMap) (s : St) (w : World) (m' : Map) (β' : LMap) (s' : St) (w' : World) : Prop where
  h : HRel m' s'.heap w'
  l : LRel m' β' s'.loc s'.gen w'
  le : Le m m'
  lel : LeL β β'
  fr : Fr m β s.heap.size s.gen w m' β' w'
  hs : s.heap.size ≤ s'.heap.size
  gs : s.gen ≤ s'.gen

theorem Beh.refl {m : Map} {β : LMap} {s : St} {a : Act} {w : World} (h : SR m β s a w) : Beh m β s w m β s w :=
  ⟨h.h, h.l, Le.refl m, fun _ _ h => h, Fr.refl _ _ _ _ _, Nat.le_refl _, Nat.le_refl _⟩

/-- An operation has been done: what it yields, the world behind it. -/
def Did (P : Program) (o : Oper) (m : Map) (β : LMap) (s : St) (a : Act) (w : World) (v : Value) (s' : St) : Prop :=
  ∃ m' β' cv w' nx, (execOp a.eval o).run P w = .ok nx w' ∧ (nx = .value cv ∨ (nx = .skip ∧ cv = undef)) ∧ VL m' β' v cv ∧ Beh m β s w m' β' s' w'

theorem cellsAt_V {m : Map} {β : LMap} {s : St} {a : Act} {w : World} (h : SR m β s a w) {x cx : Value} (hv : VL m β x cx) {n : Nat} {l : List Value} (hc : s.cellsAt x n = some l) :
    ∃ (b o : Nat) (cl : List Value), cx = .pointer (some ⟨b, o, none⟩) ∧ cl.length = l.length ∧ l.length = n ∧ (∀ (j : Nat) v, cl[j]? = some v → w.cell? ⟨b, o + j, none⟩ = some v) ∧
      ∀ (i : Nat) x y, l[i]? = some x → cl[i]? = some y → one x = true ∧ V m x y := by
  have key : ∀ (b o : Nat) (C : Array Value) (t : TypeId) (f : Nat × Nat), w.heap[b]? = some (Obj.cells C t f) → Cells m l C o → l.length = n →
      ∃ cl : List Value, cl.length = l.length ∧ (∀ (j : Nat) v, cl[j]? = some v → w.cell? ⟨b, o + j, none⟩ = some v) ∧ ∀ (i : Nat) x y, l[i]? = some x → cl[i]? = some y → one x = true ∧ V m x y := by
    intro b o C t f hb hcl hl
    have hall : ∀ i, i < l.length → ∃ cv, C[o + i]? = some cv := fun i hi => let ⟨_, cv, hc, _⟩ := hcl i l[i] (by simp [hi]); ⟨cv, hc⟩
    refine ⟨(List.range l.length).map fun i => C.getD (o + i) undef, by simp, fun j v hj => ?_, fun i x y hx hy => ?_⟩
    · simp only [List.getElem?_map] at hj
      cases hr : (List.range l.length)[j]? with
      | none => rw [hr] at hj; cases hj
      | some q =>
        rw [hr] at hj
        cases hj
        have hq : j < l.length ∧ q = j := by
          have := List.getElem?_eq_some_iff.1 hr
          obtain ⟨h1, h2⟩ := this
          simp at h1 h2
          exact ⟨h1, h2.symm⟩
        obtain ⟨hq1, rfl⟩ := hq
        obtain ⟨cv, hcv⟩ := hall q hq1
        simp only [World.cell?, hb]
        rw [Array.getD_eq_getD_getElem?, hcv]
        simp [hcv]
    · have hi : i < l.length := (List.getElem?_eq_some_iff.1 hx).1
      obtain ⟨h1, cv, hc, vv⟩ := hcl i x hx
      simp only [List.getElem?_map, List.getElem?_range hi, Option.map_some, Option.some.injEq] at hy
      subst hy
      rw [Array.getD_eq_getD_getElem?, hc]
      exact ⟨h1, vv⟩
  unfold St.cellsAt at hc
  split at hc
  · split at hc
    · rename_i hg
      rcases hv with ⟨l', off', b, h1, h2, h3⟩ | h1 | h1
      · cases h1
        obtain ⟨C, t, f, k1, k2, k3, k4⟩ := h.l.blk _ b h2
        obtain ⟨_, hl, _⟩ := window_some hc
        obtain ⟨cl, q1, q2, q3⟩ := key b _ C t f k1 (by have := k4.window hc; rwa [Nat.zero_add] at this) hl
        exact ⟨b, _, cl, h3, q1, hl, q2, q3⟩
      · cases h1
      · cases h1
    · cases hc
  · split at hc
    · rename_i id off hid
      rcases hv with ⟨l', off', b, h1, h2, h3⟩ | h1 | h1
      · cases h1
      · cases h1
      · cases h1 with
        | ptr _ _ e he =>
          obtain ⟨C, t, f, k1, k2, k3, k4, k5⟩ := h.h.blk id e he
          obtain ⟨_, hl, _⟩ := window_some hc
          obtain ⟨cl, q1, q2, q3⟩ := key e.b _ C t f k1 (k5.window hc) hl
          exact ⟨e.b, _, cl, rfl, q1, hl, q2, q3⟩
    · cases hc
  · cases hc

theorem did_load {P : Program} {o : Oper} {m : Map} {β : LMap} {s : St} {a : Act} {w : World} (h : SR m β s a w) {t : TypeId} {x : Operand} (ho : o.op = .load t x) {ti : TInfo} (ht : TI P t = some ti) {v : Value}
    (hv : (s.cellsAt (s.ev x) ti.size).bind (mk ti.agg) = some v) : Did P o m β s a w v s := by
  cases hc : s.cellsAt (s.ev x) ti.size with
  | none => rw [hc] at hv; cases hv
  | some l =>
    rw [hc] at hv
    obtain ⟨b, off, cl, h1, h2, h3, h4, h5⟩ := cellsAt_V h (h.eval x) hc
    obtain ⟨cv, k1, k2⟩ := mk_V hv cl h2 h5
    have hrun := run_loadVar ht b off cl (by omega) w h4 k1
    refine ⟨m, β, cv, w, .value cv, ?_, .inl rfl, .inr (.inr k2), Beh.refl h⟩
    unfold execOp
    simp only [ho]
    apply run_v
    simp only [Instr.loadAt, h1, Instr.sureAddr, Sem.run_bind, Sem.run_pure, Result.andThen_ok]
    exact hrun

theorem run_storeVar {P : Program} {t : TypeId} {i : TypeInfo} (hi : P.info? t = some i) (b o : Nat) (cv : Value) (hs : cv.cells.size = i.size) (w : World) {C : Array Value} {ty : TypeId} {f : Nat × Nat}
    (hb : w.heap[b]? = some (Obj.cells C ty f)) (hf : ∀ q, o ≤ q → q < o + cv.cells.size → ¬ (f.1 ≤ q ∧ q < f.2)) (hin : o + cv.cells.size ≤ C.size) (h1 : ∀ y ∈ cv.cells.toList, y.oneCell' = true) :
    (storeVar t ⟨b, o, none⟩ cv).run P w = .ok () (w.setCells b o cv.cells.toList) := by
  unfold storeVar
  simp only [Sem.run_bind, run_sz hi, Result.andThen_ok, hs, ne_eq, not_true_eq_false, if_false]
  have hcell : ∀ j, j < cv.cells.toList.length → (w.cell? ⟨b, o + 0 + j, none⟩).isSome = true := by
    intro j hj
    simp only [Array.length_toList] at hj
    have : o + j < C.size := by omega
    simp [World.cell?, hb, this]
  have hfr : ∀ j, j < cv.cells.toList.length → w.frozen? ⟨b, o + 0 + j, none⟩ = false := by
    intro j hj
    simp only [Array.length_toList] at hj
    have := hf (o + j) (by omega) (by omega)
    simp only [World.frozen?, hb, Nat.add_zero]
    simpa using this
  have := run_storeCells_cells (P := P) b o cv.cells.toList 0 w hcell hfr h1
  simpa using this

theorem did_store {P : Program} {o : Oper} {m : Map} {β : LMap} {s s' : St} {a : Act} {w : World} (h : SR m β s a w) {t : TypeId} {x y : Operand} (ho : o.op = .store t x y) {ti : TInfo} (ht : TI P t = some ti)
    (hsz : (s.ev y).cells.size = ti.size) (hpos : 0 < ti.size) (hst : storable (s.ev y) = true) (hv : s.storeAt (s.ev x) (s.ev y).cells.toList = some s') : Did P o m β s a w undef s' := by
  obtain ⟨i, d, z, hi, hd, hz, h1, h2, h3, h4, h5⟩ := TI_spec ht
  have vy := (h.eval y).v (storable_isLoc hst)
  have hcs := vy.cells_size
  have hone := V_cellsAll vy hst
  have hvv := V_cells vy hst
  have hlen : (a.eval y).cells.toList.length = (s.ev y).cells.toList.length := by simp; omega
  have fin : ∀ b off w', a.eval x = .pointer (some ⟨b, off, none⟩) → (storeVar t ⟨b, off, none⟩ (a.eval y)).run P w = .ok () w' → ∀ m' β', Beh m β s w m' β' s' w' → Did P o m β s a w undef s' := by
    intro b off w' e1 e2 m' β' hb
    refine ⟨m', β', undef, w', .skip, ?_, .inr ⟨rfl, rfl⟩, .inr (.inr (.tup _ _ rfl (fun i x y hx => by simp at hx))), hb⟩
    unfold execOp
    simp only [ho, Instr.storeAt, e1, Instr.sureAddr, Sem.run_bind, Sem.run_pure, Result.andThen_ok, e2]
  unfold St.storeAt at hv
  split at hv
  · split at hv
    · rename_i l off hx hc
      cases hv
      have hx' := h.eval x
      rw [hx] at hx'
      rcases hx' with ⟨l', off', b, e1, e2, e3⟩ | e1 | e1
      · cases e1
        obtain ⟨C, ty, f, k1, k2, k3, k4⟩ := h.l.blk _ b e2
        have hrun := run_storeVar (P := P) hi b off (a.eval y) (by omega) w k1 (fun q _ hq => k3 q (by have := hc.2; simp at this; omega)) (by have := hc.2; simp at this; omega) hone
        obtain ⟨r1, r2, r3⟩ := rel_lwrite h.h h.l e2 off (s.ev y).cells.toList (a.eval y).cells.toList hlen hc.2 hvv
        exact fin b off _ e3 hrun m β ⟨r1, r2, Le.refl m, fun _ _ h => h, r3, Nat.le_refl _, Nat.le_refl _⟩
      · cases e1
      · cases e1
    · cases hv
  · split at hv
    · rename_i id off hx hc
      cases hv
      have hx' := h.eval x
      rw [hx] at hx'
      rcases hx' with ⟨l', off', b, e1, e2, e3⟩ | e1 | e1
      · cases e1
      · cases e1
      · generalize hcx : a.eval x = cx at e1
        cases e1 with
        | ptr _ _ e he =>
          obtain ⟨C, ty, f, k1, k2, k3, k4, k5⟩ := h.h.blk id e he
          have hin : e.s + off + (a.eval y).cells.size ≤ C.size := by
            have := hc.2
            simp only [Array.length_toList] at this
            obtain ⟨_, cv, hcv, _⟩ := k5 (off + (s.ev y).cells.size - 1) ((s.heap.blk id).cells[off + (s.ev y).cells.size - 1]'(by omega)) (by simp)
            have := (Array.getElem?_eq_some_iff.1 hcv).1
            omega
          have hrun := run_storeVar (P := P) hi e.b (e.s + off) (a.eval y) (by omega) w k1 (fun q hq1 hq2 => k3 q (by omega) (by have := hc.2; have := k2.1; simp only [Array.length_toList] at *; omega)) hin hone
          obtain ⟨r1, r2, r3⟩ := rel_write h.h h.l he off (s.ev y).cells.toList (a.eval y).cells.toList hlen hc.2 hvv
          exact fin e.b (e.s + off) _ hcx hrun m β ⟨r1, r2, Le.refl m, fun _ _ h => h, r3, Nat.le_refl _, Nat.le_refl _⟩
    · cases hv
  · cases hv

end Go.Abs
