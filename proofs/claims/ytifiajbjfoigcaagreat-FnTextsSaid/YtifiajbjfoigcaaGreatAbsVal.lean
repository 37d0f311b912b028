/-
  THE ABSTRACT MACHINE AND THE MODEL: the operations that yield a value and leave memory alone.
-/
import Derived.Test.YtifiajbjfoigcaaGreatAbsHeap
import Derived.ChangeKeysEq
namespace Go.Abs
open Go

/-- The frame and the world. -/
structure SR (m : Map) (β : LMap) (s : St) (a : Act) (w : World) : Prop where
  h : HRel m s.heap w
  l : LRel m β s.loc s.gen w
  env : ∀ t, VL m β (s.env t) (a.tmps.getD t undef)
  nt : a.tmps.size = s.nt
  df : a.defers = []

theorem SR.eval {m : Map} {β : LMap} {s : St} {a : Act} {w : World} (h : SR m β s a w) (x : Operand) : VL m β (s.ev x) (a.eval x) := by
  cases x with
  | tmp t => exact h.env t
  | const v =>
    show VL m β (if flatB v then v else bot) v
    split
    · rename_i hf; exact .inr (.inr (.of_flat hf))
    · exact .inr (.inl rfl)
  | global g => exact .inr (.inl rfl)
  | func f => exact .inr (.inr (.func f #[] #[] #[] #[] rfl rfl (fun i x y hx => by simp at hx) (fun i x y hx => by simp at hx)))

theorem getD_set (l : Array Value) (d t : Nat) (v : Value) : (l.setIfInBounds d v).getD t undef = if t = d ∧ d < l.size then v else l.getD t undef := by
  rw [Array.getD_eq_getD_getElem?, Array.getD_eq_getD_getElem?, Array.getElem?_setIfInBounds]
  by_cases h : d = t
  · subst h
    by_cases k : d < l.size
    · simp [k]
    · simp [k]
  · have : ¬ t = d := fun e => h e.symm
    simp [h, this]

theorem SR.put {m : Map} {β : LMap} {s : St} {a : Act} {w : World} (h : SR m β s a w) (dst : Option Tmp) {v cv : Value} (hv : VL m β v cv) : SR m β (s.put dst v) (a.put dst cv) w := by
  cases dst with
  | none => exact h
  | some d =>
    refine ⟨h.h, h.l, fun t => ?_, ?_, h.df⟩
    · show VL m β (if t = d ∧ d < s.nt then v else s.env t) ((a.tmps.setIfInBounds d cv).getD t undef)
      rw [getD_set, h.nt]
      split
      · exact hv
      · exact h.env t
    · show (a.tmps.setIfInBounds d cv).size = s.nt
      rw [Array.size_setIfInBounds]; exact h.nt

theorem put_heap (s : St) (dst : Option Tmp) (v : Value) : (s.put dst v).heap = s.heap := by cases dst <;> rfl
theorem put_loc (s : St) (dst : Option Tmp) (v : Value) : (s.put dst v).loc = s.loc := by cases dst <;> rfl
theorem put_gen (s : St) (dst : Option Tmp) (v : Value) : (s.put dst v).gen = s.gen := by cases dst <;> rfl
theorem put_nt (s : St) (dst : Option Tmp) (v : Value) : (s.put dst v).nt = s.nt := by cases dst <;> rfl

/-! ### Pieces -/

theorem V_cells {m : Map} {v cv : Value} (h : V m v cv) (hs : storable v = true) : ∀ (i : Nat) x y, v.cells.toList[i]? = some x → cv.cells.toList[i]? = some y → one x = true ∧ V m x y := by
  cases h with
  | agg xs ys h h1 hh =>
    intro i x y hx hy
    simp only [Value.cells, Array.getElem?_toList] at hx hy
    exact ⟨h1 i x hx, hh i x y hx hy⟩
  | tup xs ys h hh => cases hs
  | _ =>
    intro i x y hx hy
    cases i with
    | zero =>
      simp only [Value.cells, List.getElem?_cons_zero, Option.some.injEq] at hx hy
      subst hx; subst hy
      exact ⟨rfl, by first | exact .bool _ | exact .int _ _ | exact .str _ | exact .nilp | exact .nils | exact .nilf | exact .nili | (constructor <;> assumption)⟩
    | succ i => simp [Value.cells] at hx

theorem V_cellsAll {m : Map} {v cv : Value} (h : V m v cv) (hs : storable v = true) : ∀ y ∈ cv.cells.toList, y.oneCell' = true := by
  intro y hy
  obtain ⟨i, hi⟩ := List.getElem?_of_mem hy
  have hsz := h.cells_size
  have hlt : i < v.cells.toList.length := by
    have := (List.getElem?_eq_some_iff.1 hi).1
    simp only [Array.length_toList] at this ⊢
    omega
  have := V_cells h hs i v.cells.toList[i] y (by simp) hi
  exact one_oneCell y (this.2.one.trans this.1)

theorem mk_V {m : Map} {agg : Bool} {l : List Value} {v : Value} (h : mk agg l = some v) (cl : List Value) (hl : cl.length = l.length)
    (hh : ∀ (i : Nat) x y, l[i]? = some x → cl[i]? = some y → one x = true ∧ V m x y) : ∃ cv, mk agg cl = some cv ∧ V m v cv := by
  unfold mk at h ⊢
  cases agg with
  | true =>
    simp only [if_true, Option.some.injEq] at h ⊢
    subst h
    refine ⟨_, rfl, .agg _ _ (by simp [hl]) ?_ ?_⟩
    · intro i x hx
      simp only [List.getElem?_toArray] at hx
      have hlt : i < cl.length := by rw [hl]; exact (List.getElem?_eq_some_iff.1 hx).1
      exact (hh i x cl[i] hx (by simp [hlt])).1
    · intro i x y hx hy
      simp only [List.getElem?_toArray] at hx hy
      exact (hh i x y hx hy).2
  | false =>
    simp only [Bool.false_eq_true, if_false] at h ⊢
    cases l with
    | nil => cases h
    | cons x r =>
      cases r with
      | nil =>
        obtain ⟨y, rfl⟩ := List.length_eq_one_iff.1 hl
        cases h
        exact ⟨y, rfl, (hh 0 _ y rfl rfl).2⟩
      | cons _ _ => cases h

theorem agg_isAgg {P : Program} {t : TypeId} {d : TypeDesc} (h : P.underlying t = some d) (w : World) : (isAgg t).run P w = .ok (aggD d) w := by
  unfold isAgg
  simp only [Sem.run_bind, run_underlying h, Result.andThen_ok]
  cases d <;> rfl

theorem run_ti {P : Program} {t : TypeId} {i : TypeInfo} (h : P.info? t = some i) (w : World) : (typeInfo t).run P w = .ok i w := by
  unfold typeInfo
  simp only [Sem.run_bind, run_program, Result.andThen_ok, h, Sem.run_pure]

theorem run_sz {P : Program} {t : TypeId} {i : TypeInfo} (h : P.info? t = some i) (w : World) : (sizeOf t).run P w = .ok i.size w := by
  unfold sizeOf
  simp only [Sem.run_bind, run_ti h, Result.andThen_ok, Sem.run_pure]

theorem run_zero {P : Program} {t : TypeId} {i : TypeInfo} {z : Value} (h : P.info? t = some i) (hz : i.zero = some z) (w : World) : (zeroValue t).run P w = .ok z w := by
  unfold zeroValue
  simp only [Sem.run_bind, run_ti h, Result.andThen_ok, hz, Sem.run_pure]

/-- A variable is read. -/
theorem run_loadVar {P : Program} {t : TypeId} {ti : TInfo} (ht : TI P t = some ti) (b o : Nat) (cl : List Value) (hl : cl.length = ti.size) (w : World)
    (hc : ∀ (j : Nat) v, cl[j]? = some v → w.cell? ⟨b, o + j, none⟩ = some v) {v : Value} (hv : mk ti.agg cl = some v) : (loadVar t ⟨b, o, none⟩).run P w = .ok v w := by
  obtain ⟨i, d, z, hi, hd, hz, h1, h2, h3, h4, h5⟩ := TI_spec ht
  have hadd : ∀ j, (⟨b, o, none⟩ : Addr).add j = ⟨b, o + j, none⟩ := by intro j; unfold Addr.add; split <;> simp_all
  unfold loadVar
  simp only [Sem.run_bind, agg_isAgg hd, Result.andThen_ok]
  rw [h2] at hv
  cases ha : aggD d with
  | true =>
    rw [ha] at hv
    simp only [mk, if_true, Option.some.injEq] at hv
    subst hv
    simp only [if_true, Sem.run_bind, sizeOf, run_ti hi, Result.andThen_ok, Sem.run_pure]
    rw [← h1, ← hl, run_loadCells_list w ⟨b, o, none⟩ cl (fun j v hj => by rw [hadd]; exact hc j v hj)]
    rfl
  | false =>
    rw [ha] at hv
    simp only [mk, Bool.false_eq_true, if_false] at hv
    match cl, hv with
    | [x], hv =>
      cases hv
      have := hc 0 v rfl
      simp only [Bool.false_eq_true, if_false, run_load, Nat.add_zero] at this ⊢
      rw [this]


/-- A part of a struct or an array. -/
theorem run_part {P : Program} {t : TypeId} {ti : TInfo} (ht : TI P t = some ti) (cs : Array Value) (off : Nat) (cl : List Value) (hw : window cs.toList off ti.size = some cl) {v : Value} (hv : mk ti.agg cl = some v)
    (w : World) : (part t cs off).run P w = .ok v w := by
  obtain ⟨i, d, z, hi, hd, hz, h1, h2, h3, h4, h5⟩ := TI_spec ht
  unfold part
  simp only [Sem.run_bind, agg_isAgg hd, Result.andThen_ok]
  rw [h2] at hv
  obtain ⟨w1, w2, w3⟩ := window_some hw
  cases ha : aggD d with
  | true =>
    rw [ha] at hv
    simp only [mk, if_true, Option.some.injEq] at hv
    subst hv
    simp only [if_true, Sem.run_bind, run_sz hi, Result.andThen_ok, Sem.run_pure]
    unfold window at hw
    rw [if_pos w1] at hw
    cases hw
    rw [← h1]
    congr 2
    apply Array.ext'
    simp [List.take_drop]
  | false =>
    rw [ha] at hv
    simp only [mk, Bool.false_eq_true, if_false] at hv ⊢
    match cl, hv with
    | [x], hv =>
      cases hv
      simp only [List.length_singleton] at w2
      have := w3 0 (by omega)
      simp only [List.getElem?_cons_zero, Nat.add_zero, Array.getElem?_toList] at this
      rw [← this]
      rfl

theorem window_V {m : Map} {xs ys : Array Value} (hs : xs.size = ys.size) (h1 : ∀ (i : Nat) x, xs[i]? = some x → one x = true) (hh : ∀ (i : Nat) x y, xs[i]? = some x → ys[i]? = some y → V m x y)
    {off n : Nat} {l : List Value} (hw : window xs.toList off n = some l) :
    ∃ cl, window ys.toList off n = some cl ∧ cl.length = l.length ∧ ∀ (i : Nat) x y, l[i]? = some x → cl[i]? = some y → one x = true ∧ V m x y := by
  obtain ⟨w1, w2, w3⟩ := window_some hw
  simp only [Array.length_toList] at w1
  have hb : off + n ≤ ys.toList.length := by simp only [Array.length_toList]; omega
  have hy : window ys.toList off n = some ((ys.toList.drop off).take n) := by unfold window; rw [if_pos hb]
  obtain ⟨y1, y2, y3⟩ := window_some hy
  refine ⟨_, hy, by omega, fun i x y hx hyy => ?_⟩
  have hi : i < n := by rw [← w2]; exact (List.getElem?_eq_some_iff.1 hx).1
  rw [w3 i hi] at hx
  rw [y3 i hi] at hyy
  simp only [Array.getElem?_toList] at hx hyy
  exact ⟨h1 _ x hx, hh _ x y hx hyy⟩

/-! ### Comparing -/

theorem bytes_inj (a b : ByteArray) : a.toList = b.toList ↔ a = b := by
  rw [ByteArray.toList_eq, ByteArray.toList_eq]
  obtain ⟨⟨x⟩⟩ := a
  obtain ⟨⟨y⟩⟩ := b
  simp

theorem beq_bytes (a b : ByteArray) : (a.toList == b.toList) = decide (a = b) := by
  rw [Bool.eq_iff_iff]
  simp [bytes_inj]


theorem run_eqFields {P : Program} (d : Nat) (ih : ∀ (t : TypeId) (x y : Value) r, eqIn P d t x y = some r → ∀ (m : Map) cx cy, V m x cx → V m y cy → ∀ D, d ≤ D → ∀ w, (Op.equalIn D t cx cy).run P w = .ok r w)
    {m : Map} {xs ys cxs cys : Array Value} (hx : V m (.agg xs) (.agg cxs)) (hy : V m (.agg ys) (.agg cys)) (D : Nat) (hD : d ≤ D) (w : World) :
    ∀ (fs : List Field) r, eqIn.go P d xs ys fs = some r → (Op.eqFields D cxs cys fs).run P w = .ok r w
  | [], r, h => by
    simp only [eqIn.go, Option.some.injEq] at h
    subst h
    rfl
  | f :: fs, r, h => by
    cases hx with
    | agg _ _ hxs hx1 hxh =>
    cases hy with
    | agg _ _ hys hy1 hyh =>
    simp only [eqIn.go] at h
    split at h
    · cases h
    · rename_i hname
      split at h
      · cases h
      · rename_i ti hti
        split at h
        · rename_i a b ha hb
          split at h
          · rename_i r1 r2 h1 h2
            cases h
            cases hwx : window xs.toList f.offset ti.size with
            | none => rw [hwx] at ha; cases ha
            | some lx =>
              rw [hwx] at ha
              cases hwy : window ys.toList f.offset ti.size with
              | none => rw [hwy] at hb; cases hb
              | some ly =>
                rw [hwy] at hb
                obtain ⟨cx, cw, cl, cv⟩ := window_V hxs hx1 hxh hwx
                obtain ⟨cy, cw', cl', cv'⟩ := window_V hys hy1 hyh hwy
                obtain ⟨ca, hca, va⟩ := mk_V ha cx cl cv
                obtain ⟨cb, hcb, vb⟩ := mk_V hb cy cl' cv'
                have e1 := run_part hti cxs f.offset cx cw hca w
                have e2 := run_part hti cys f.offset cy cw' hcb w
                have e3 := ih f.type a b r1 h1 m ca cb va vb D hD w
                have e4 := run_eqFields d ih (.agg xs cxs hxs hx1 hxh) (.agg ys cys hys hy1 hyh) D hD w fs r2 h2
                simp only [Op.eqFields]
                rw [if_pos hname]
                simp only [Sem.run_bind, e1, e2, e3, Result.andThen_ok]
                cases r1 with
                | true => simpa using e4
                | false => rfl
          · cases h
        · cases h

theorem run_equalIn {P : Program} : ∀ (d : Nat) (t : TypeId) (x y : Value) r, eqIn P d t x y = some r → ∀ (m : Map) cx cy, V m x cx → V m y cy → ∀ D, d ≤ D → ∀ w, (Op.equalIn D t cx cy).run P w = .ok r w
  | 0, _, _, _, _, h => by simp [eqIn] at h
  | d + 1, t, x, y, r, h => by
    intro m cx cy vx vy D hD w
    obtain ⟨D, rfl⟩ : ∃ k, D = k + 1 := ⟨D - 1, by omega⟩
    unfold eqIn at h
    split at h
    · rename_i hd
      cases V.eq_flat0 rfl vx; cases V.eq_flat0 rfl vy
      cases h
      rw [run_equalIn_bool w D t _ _ hd]
      rfl
    · rename_i hd
      cases V.eq_flat0 rfl vx; cases V.eq_flat0 rfl vy
      split at h
      · rename_i hk
        cases h
        subst hk
        exact run_equalIn_int w D t _ _ _ _ hd
      · cases h
    · rename_i hd
      cases V.eq_flat0 rfl vx; cases V.eq_flat0 rfl vy
      cases h
      rw [run_equalIn_string w D t _ _ hd, beq_bytes]
    · rename_i fs xs ys hd
      split at h
      · cases h
      · rename_i hs
        cases vx with
        | agg _ cxs hxs hx1 hxh =>
        cases vy with
        | agg _ cys hys hy1 hyh =>
        have hfo : P.fieldsOf t = fs := by unfold Program.fieldsOf; rw [hd]
        rw [run_equalIn_struct w D t cxs cys (by rw [hfo]; exact hd) (by simpa using hs), hfo]
        exact run_eqFields d (fun t x y r h m cx cy vx vy D hD w => run_equalIn d t x y r h m cx cy vx vy D hD w) (.agg xs cxs hxs hx1 hxh) (.agg ys cys hys hy1 hyh) D (by omega) w fs.toList r h
    · cases h

theorem nilness_V {m : Map} {v cv : Value} (h : V m v cv) : nilness cv = nilness v := by cases h <;> rfl

theorem run_eqNil {P : Program} {t : TypeId} {x y : Value} {r : Bool} (h : eqNil P t x y = some r) {m : Map} {cx cy : Value} (vx : V m x cx) (vy : V m y cy) (D : Nat) (w : World) :
    (Op.equalIn (D + 1) t cx cy).run P w = .ok r w := by
  unfold eqNil at h
  split at h
  · rename_i hd
    cases V.eq_flat0 rfl vx
    cases vy <;> simp only [nilness, Option.some.injEq] at h <;> subst h <;> simp [Op.equalIn, run_underlying hd]
  · rename_i hx hd
    cases V.eq_flat0 rfl vy
    cases vx <;> simp only [nilness, Option.some.injEq] at h <;> subst h <;> simp [Op.equalIn, run_underlying hd]
  · rename_i hd
    cases vx
    cases vy <;> simp only [nilness, Option.some.injEq] at h <;> subst h <;> simp [Op.equalIn, run_underlying hd]
  · rename_i hx hd
    cases vy
    cases vx <;> simp only [nilness, Option.some.injEq] at h <;> subst h <;> simp [Op.equalIn, run_underlying hd]
  · rename_i hd
    cases vx; cases vy; cases h
    simp [Op.equalIn, run_underlying hd]
  · rename_i hd
    cases vx; cases vy; cases h
    simp [Op.equalIn, run_underlying hd]
  · rename_i hd
    cases vx; cases vy; cases h
    simp [Op.equalIn, run_underlying hd]
  · cases h

end Go.Abs
