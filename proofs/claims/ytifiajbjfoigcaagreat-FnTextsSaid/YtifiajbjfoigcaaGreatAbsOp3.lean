/-
  THE ABSTRACT MACHINE AND THE MODEL: what makes memory.
-/
import Derived.Test.YtifiajbjfoigcaaGreatAbsOp2
namespace Go.Abs
open Go
set_option linter.unusedSimpArgs false

theorem alloc_still (w : World) (o : Obj) : Still w (w.alloc o) := ⟨rfl, rfl, rfl⟩
theorem drew_alloc_still (w : World) (o : Obj) : Still w (w.drew.alloc o) := ⟨rfl, rfl, rfl⟩

theorem free_zero (C : Array Value) : free (0, 0) C := fun o _ h => by omega

theorem run_newRow {P : Program} (t : TypeId) (C : Array Value) (w : World) : (newRow t C).run P w = .ok ⟨w.heap.size, 0, none⟩ (w.alloc (.cells C t)) := by
  simp [newRow]

/-- What 'make' does to a state, less the temporary. -/
def St.made (s : St) (ls : List Nat) (dst : Option Tmp) (cells : List Value) : St :=
  if dst.any (ls.contains ·) then { s with loc := fun x => if x = s.gen then cells else s.loc x, gen := s.gen + 1 } else { s with heap := s.heap.push cells 0 }

def St.madeV (s : St) (ls : List Nat) (dst : Option Tmp) : Value :=
  if dst.any (ls.contains ·) then lptr s.gen 0 else .pointer (some ⟨s.heap.size, 0, none⟩)

theorem make_eq (s : St) (ls : List Nat) (dst : Option Tmp) (cells : List Value) : s.make ls dst cells = (s.made ls dst cells).put dst (s.madeV ls dst) := by
  unfold St.make St.made St.madeV
  split <;> rfl

theorem put_same (m : Map) (n : Nat) (e : Ent) : put m n e n = some e := by unfold Abs.put; rw [if_pos rfl]

theorem did_make {P : Program} {o : Oper} {m : Map} {β : LMap} {s : St} {a : Act} {w : World} (h : SR m β s a w) (ls : List Nat) (cells : List Value) (C : Array Value) (t : TypeId)
    (hC : Cells m cells C 0) (hs : C.size = cells.length) (hrun : (execOp a.eval o).run P w = .ok (.value (.pointer (some ⟨w.heap.size, 0, none⟩))) (w.alloc (.cells C t))) :
    Did P o m β s a w (s.madeV ls o.dst) (s.made ls o.dst cells) := by
  unfold St.made St.madeV
  split
  · obtain ⟨r1, r2, r3, r4⟩ := rel_local h.h h.l cells C t (0, 0) hC hs (free_zero C) (w' := w.alloc (.cells C t)) rfl (alloc_still _ _)
    exact ⟨_, _, _, _, _, hrun, .inl rfl, .inl ⟨s.gen, 0, w.heap.size, rfl, by simp, rfl⟩, ⟨r1, r2, Le.refl m, r3, r4, Nat.le_refl _, Nat.le_succ _⟩⟩
  · have hc : ((s.heap.push cells 0).blk s.heap.size) = ⟨cells, 0, s.heap.size, 0⟩ := by
      show (if s.heap.size = s.heap.size then _ else _) = _
      rw [if_pos rfl]
    obtain ⟨r1, r2, r3, r4⟩ := rel_alloc (H' := s.heap.push cells 0) h.h h.l rfl (fun i hi => by
      have : (s.heap.push cells 0).blk i = s.heap.blk i := by show (if i = s.heap.size then _ else _) = _; rw [if_neg (by omega)]
      rw [this]; exact Sub.refl _) C t (0, 0) (by rw [hc]; exact hC) (free_zero C) (w' := w.alloc (.cells C t)) rfl (alloc_still _ _)
    refine ⟨_, _, _, _, _, hrun, .inl rfl, .inr (.inr ?_), ⟨r1, r2, r3, fun _ _ h => h, r4, Nat.le_succ _, Nat.le_refl _⟩⟩
    exact .ptr s.heap.size 0 _ (put_same _ _ _)

theorem did_alloc {P : Program} {o : Oper} {m : Map} {β : LMap} {s : St} {a : Act} {w : World} (h : SR m β s a w) (ls : List Nat) {t : TypeId} (ho : o.op = .alloc t) {ti : TInfo} (ht : TI P t = some ti) :
    Did P o m β s a w (s.madeV ls o.dst) (s.made ls o.dst ti.zero) := by
  obtain ⟨i, d, z, hi, hd, hz, h1, h2, h3, h4, h5⟩ := TI_spec ht
  refine did_make h ls ti.zero z.cells t ?_ (by rw [h3]; simp) ?_
  · intro k x hx
    rw [h3] at hx
    have hx' := hx
    simp only [Array.getElem?_toList] at hx'
    have := h5 x (List.mem_of_getElem? hx)
    exact ⟨flat0_one this, x, by simpa using hx', .of_flat0 this⟩
  · unfold execOp
    simp only [ho]
    apply run_v
    simp only [Instr.alloc, Sem.run_bind, run_zero hi hz, Result.andThen_ok, newVar, run_newRow, Sem.run_pure]

theorem did_box {P : Program} {o : Oper} {m : Map} {β : LMap} {s : St} {a : Act} {w : World} (h : SR m β s a w) (ls : List Nat) {t : TypeId} {x : Operand} (ho : o.op = .box t x) (hst : storable (s.ev x) = true) :
    Did P o m β s a w (s.madeV ls o.dst) (s.made ls o.dst (s.ev x).cells.toList) := by
  have vx := (h.eval x).v (storable_isLoc hst)
  have hsz := vx.cells_size
  refine did_make h ls _ (a.eval x).cells t ?_ (by simp; omega) ?_
  · intro k y hy
    have hk : k < (a.eval x).cells.size := by
      have := (List.getElem?_eq_some_iff.1 hy).1
      simp only [Array.length_toList] at this
      omega
    have := V_cells vx hst k y (a.eval x).cells[k] hy (by simp)
    exact ⟨this.1, _, by simp, this.2⟩
  · unfold execOp
    simp only [ho]
    apply run_v
    simp only [Instr.box, newVar, Sem.run_bind, run_newRow, Result.andThen_ok, Sem.run_pure]

theorem push_blk (H : Heap) (cells : List Value) (es : Nat) : (H.push cells es).blk H.size = ⟨cells, es, H.size, 0⟩ := by
  show (if H.size = H.size then _ else _) = _
  rw [if_pos rfl]

theorem push_sub (H : Heap) (cells : List Value) (es i : Nat) (hi : i < H.size) : Sub ((H.push cells es).blk i) (H.blk i) := by
  have : (H.push cells es).blk i = H.blk i := by show (if i = H.size then _ else _) = _; rw [if_neg (by omega)]
  rw [this]; exact Sub.refl _

/-- A new row of elements. -/
theorem did_row {P : Program} {o : Oper} {m : Map} {β : LMap} {s : St} {a : Act} {w w' : World} (h : SR m β s a w) (cells : List Value) (es n cap : Nat) (C : Array Value) (t : TypeId) (f : Nat × Nat) (hf : free f C)
    (hC : Cells m cells C 0) (hcap : n ≤ cap) (htop : cap * es ≤ C.size) (hw : w'.heap = w.heap.push (.cells C t f)) (hst : Still w w')
    (hrun : (execOp a.eval o).run P w = .ok (.value (.slice (some ⟨w.heap.size, 0, none⟩) n cap)) w') :
    Did P o m β s a w (.slice (some ⟨s.heap.size, 0, none⟩) n 0) { s with heap := s.heap.push cells es } := by
  obtain ⟨r1, r2, r3, r4⟩ := rel_alloc (H' := s.heap.push cells es) h.h h.l rfl (push_sub _ _ _) C t f (by rw [push_blk]; exact hC) hf hw hst
  rw [push_blk] at r1 r2 r3 r4
  refine ⟨_, _, _, _, _, hrun, .inl rfl, .inr (.inr ?_), ⟨r1, r2, r3, fun _ _ h => h, r4, Nat.le_succ _, Nat.le_refl _⟩⟩
  have he : put m s.heap.size ⟨w.heap.size, 0, es, C.size⟩ s.heap.size = some ⟨w.heap.size, 0, es, C.size⟩ := put_same _ _ _
  exact .slc s.heap.size 0 n 0 cap 0 _ he hcap (.inl rfl) (.inl rfl) (.inl (by simpa using htop))

theorem PV_map {m : Map} {β : LMap} {s : St} {a : Act} {w : World} (h : SR m β s a w) (ps : Array (Nat × Operand)) : PV m (ps.toList.map fun p => (p.1, s.ev p.2)) (ps.map fun x => (x.1, a.eval x.2)).toList := by
  refine ⟨by simp, fun i x y hx hy => ?_⟩
  simp only [List.getElem?_map, Array.toList_map] at hx hy
  cases hpi : ps.toList[i]? with
  | none => rw [hpi] at hx; cases hx
  | some p =>
    rw [hpi] at hx hy
    cases hx; cases hy
    exact ⟨rfl, (h.eval p.2).isLoc_or⟩

theorem valH_done {s : St} {dst : Option Tmp} {ov : Option (Value × Heap)} {r : OpR} (h : valH s dst ov = some r) : ∃ v H, ov = some (v, H) ∧ r = .done ({ s with heap := H }.put dst v) := by
  unfold valH at h
  split at h
  · cases h; exact ⟨_, _, rfl, rfl⟩
  · cases h

theorem did_buildSlice {P : Program} {o : Oper} {m : Map} {β : LMap} {s : St} {a : Act} {w : World} (h : SR m β s a w) {t : TypeId} {n : Nat} {ps : Array (Nat × Operand)} (ho : o.op = .buildSlice t n ps)
    {v : Value} {H : Heap} (hv : buildSlice P s t n (ps.toList.map fun p => (p.1, s.ev p.2)) = some (v, H)) : Did P o m β s a w v { s with heap := H } := by
  unfold buildSlice at hv
  split at hv
  · rename_i q1 q2 q3 e es by_ ht
    obtain ⟨hd, j, z, hj, hz, hzs, rfl, rfl⟩ := TI_slice ht rfl
    split at hv
    · rename_i hc
      obtain ⟨c1, c2, c3⟩ := hc
      cases hio : inOrder j.size 0 (ps.toList.map fun p => (p.1, s.ev p.2)) with
      | none => rw [hio] at hv; cases hv
      | some cells =>
        rw [hio] at hv
        cases hv
        have hlen : n * j.size ≤ 2 ^ 20 := Nat.le_trans (Nat.mul_le_mul_left _ (by omega)) c3
        by_cases hn : n * j.size = 0
        · have hn0 : n = 0 := by
            rcases Nat.mul_eq_zero.1 hn with h0 | h0
            · exact h0
            · omega
          subst hn0
          have hps : ps.toList.map (fun p => (p.1, s.ev p.2)) = [] := List.length_eq_zero_iff.1 c1
          rw [hps] at hio
          cases hio
          have hps2 : ps = #[] := by
            have : ps.toList = [] := List.map_eq_nil_iff.1 hps
            exact Array.toList_eq_nil_iff.1 this
          refine did_row h [] j.size 0 0 #[] e (0, 0) (free_zero _) (Cells.nil _ _ _) (Nat.le_refl _) (by simp) (w' := w.alloc (.cells #[] e)) rfl (alloc_still _ _) ?_
          unfold execOp
          simp only [ho, hps2]
          apply run_v
          have hr0 : Array.map (fun x => z.cells[x % z.cells.size]!) (Array.range 0) = #[] := Array.eq_empty_of_size_eq_zero (by rw [Array.size_map, Array.size_range])
          have hr1 : Array.map (fun x => (#[] : Array Value)[x % (#[] : Array Value).size]!) (Array.range 0) = #[] := Array.eq_empty_of_size_eq_zero (by rw [Array.size_map, Array.size_range])
          simp only [Instr.buildSlice, run_underlying hd, run_sz hj, Sem.run_bind, Result.andThen_ok, Nat.zero_mul, if_true, Sem.run_pure, hr1, Array.map_empty, Array.toList_empty, Instr.fill, run_newRow]
          rw [if_neg (by decide)]
          simp only [Sem.run_bind, Result.andThen_ok, Sem.run_pure, run_newRow, hr1]
        · have hCs : ((Array.range (n * j.size)).map (z.cells[· % z.cells.size]!)).size = n * j.size := by rw [Array.size_map, Array.size_range]
          obtain ⟨cout, f1, f2, f3, f4⟩ := inOrder_V j.size _ _ 0 cells ((Array.range (n * j.size)).map (z.cells[· % z.cells.size]!)) hio (PV_map h ps) (by rw [Nat.zero_add, c1, hCs]; exact Nat.le_refl _)
          have hrun := run_buildSlice w t e n (ps.map fun x => (x.1, a.eval x.2)) _ j z hd hj hz (by omega) hn f1
          rw [c1] at f3
          refine did_row h cells j.size n n (setA ((Array.range (n * j.size)).map (z.cells[· % z.cells.size]!)) (0 * j.size) cout) e (0, 0) (free_zero _) ?_ (Nat.le_refl _) (by rw [setA_size, hCs]; exact Nat.le_refl _) (w' := w.alloc (.cells _ e)) rfl (alloc_still _ _) ?_
          · intro i x hx
            have hi : i < cout.length := by rw [f2]; exact (List.getElem?_eq_some_iff.1 hx).1
            have := f4 i x cout[i] hx (by simp)
            refine ⟨this.1, cout[i], ?_, this.2⟩
            rw [setA_get, if_pos ⟨by omega, by omega, by rw [hCs]; omega⟩]
            simp
          · unfold execOp
            simp only [ho]
            apply run_v
            exact hrun
    · cases hv
  · cases hv

end Go.Abs
