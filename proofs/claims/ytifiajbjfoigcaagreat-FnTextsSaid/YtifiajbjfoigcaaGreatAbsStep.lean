/-
  THE ABSTRACT MACHINE AND THE MODEL: struct and slice literals; the operations that yield a value, each in its turn.
-/
import Derived.Test.YtifiajbjfoigcaaGreatAbsBin2
import Derived.Great.BuildSlice
namespace Go.Abs
open Go

/-! ### fill -/

theorem foldl_setA (off : Nat) : ∀ (l : List Value) (k : Nat) (C : Array Value), (l.zipIdx k).foldl (fun cs (x : Value × Nat) => cs.setIfInBounds (off + x.2) x.1) C = setA C (off + k) l
  | [], k, C => rfl
  | v :: r, k, C => by
    simp only [List.zipIdx_cons, List.foldl_cons, setA]
    rw [foldl_setA off r (k + 1)]
    rfl

theorem fill_cons (place : Nat → Option (Nat × Nat)) (C : Array Value) (i : Nat) (v : Value) (rest : List (Nat × Value)) {off size : Nat} (hp : place i = some (off, size)) (hs : v.cells.size = size) (hb : off + size ≤ C.size) :
    Instr.fill place C ((i, v) :: rest) = Instr.fill place (setA C off v.cells.toList) rest := by
  unfold Instr.fill
  simp only [hp]
  rw [if_neg (by simp; omega)]
  have : v.cells.zipIdx.foldl (fun cs (x : Value × Nat) => cs.setIfInBounds (off + x.2) x.1) C = setA C off v.cells.toList := by
    rw [← Array.foldl_toList, Array.toList_zipIdx, foldl_setA]
    rfl
  rw [← this]
  cases rest <;> rfl

theorem setA_append (l r : List Value) : ∀ (C : Array Value) (o : Nat), setA C o (l ++ r) = setA (setA C o l) (o + l.length) r := by
  induction l with
  | nil => intro C o; rfl
  | cons v l ih =>
    intro C o
    simp only [List.cons_append, setA, ih, List.length_cons]
    congr 1
    omega

/-- Parts that go together. -/
def PV (m : Map) (l cl : List (Nat × Value)) : Prop := l.length = cl.length ∧ ∀ (i : Nat) x y, l[i]? = some x → cl[i]? = some y → x.1 = y.1 ∧ (V m x.2 y.2 ∨ isLoc x.2 = true)

theorem PV.tail {m : Map} {x y : Nat × Value} {l cl : List (Nat × Value)} (h : PV m (x :: l) (y :: cl)) : PV m l cl :=
  ⟨by have := h.1; simp at this; exact this, fun i a b ha hb => h.2 (i + 1) a b (by simpa using ha) (by simpa using hb)⟩

theorem PV.head {m : Map} {x y : Nat × Value} {l cl : List (Nat × Value)} (h : PV m (x :: l) (y :: cl)) (hs : storable x.2 = true) : x.1 = y.1 ∧ V m x.2 y.2 := by
  obtain ⟨h1, h2 | h2⟩ := h.2 0 x y rfl rfl
  · exact ⟨h1, h2⟩
  · rw [storable_isLoc hs] at h2; cases h2

theorem fill_V {m : Map} (fs : List (Nat × Nat)) : ∀ (parts cparts : List (Nat × Value)) (cells out : List Value) (C : Array Value), fillL fs cells parts = some out → PV m parts cparts →
    C.size = cells.length → Cells m cells C 0 → ∃ C', Instr.fill (fs[·]?) C cparts = some C' ∧ C'.size = out.length ∧ Cells m out C' 0
  | [], cparts, cells, out, C, h, hp, hs, hc => by
    cases cparts with
    | nil => cases h; exact ⟨C, rfl, hs, hc⟩
    | cons _ _ => cases hp.1
  | (i, v) :: rest, cparts, cells, out, C, h, hp, hs, hc => by
    cases cparts with
    | nil => cases hp.1
    | cons y crest =>
      unfold fillL at h
      split at h
      · rename_i off size hfs
        split at h
        · rename_i hcond
          obtain ⟨c1, c2, c3⟩ := hcond
          obtain ⟨e1, vv⟩ := hp.head c3
          obtain ⟨j, cv⟩ := y
          simp only at e1 vv
          subst e1
          have hsz := vv.cells_size
          have hl : (splice cells off v.cells.toList).length = cells.length := splice_length _ _ _ (by simp; omega)
          obtain ⟨C', h1, h2, h3⟩ := fill_V fs rest crest (splice cells off v.cells.toList) out (setA C off cv.cells.toList) h hp.tail (by rw [setA_size, hl]; exact hs)
            (by
              have := Cells.setA_in (s := 0) (off := off) (vs := v.cells.toList) (cvs := cv.cells.toList) hc (by simp; omega) (by simp; omega) (V_cells vv c3)
              simpa using this)
          exact ⟨C', by rw [fill_cons _ C i cv crest hfs (by omega) (by omega)]; exact h1, h2, h3⟩
        · cases h
      · cases h

theorem inOrder_V {m : Map} (es : Nat) : ∀ (parts cparts : List (Nat × Value)) (k : Nat) (out : List Value) (C : Array Value), inOrder es k parts = some out → PV m parts cparts →
    (k + parts.length) * es ≤ C.size → ∃ cout : List Value, Instr.fill (fun i => some (i * es, es)) C cparts = some (setA C (k * es) cout) ∧ cout.length = out.length ∧ out.length = parts.length * es ∧
      ∀ (i : Nat) x y, out[i]? = some x → cout[i]? = some y → one x = true ∧ V m x y
  | [], cparts, k, out, C, h, hp, hs => by
    cases cparts with
    | nil => cases h; exact ⟨[], rfl, rfl, by simp, fun i x y hx => by simp at hx⟩
    | cons _ _ => cases hp.1
  | (i, v) :: rest, cparts, k, out, C, h, hp, hs => by
    cases cparts with
    | nil => cases hp.1
    | cons y crest =>
      unfold inOrder at h
      split at h
      · rename_i hcond
        obtain ⟨c1, c2, c3⟩ := hcond
        subst c1
        cases hr : inOrder es (i + 1) rest with
        | none => rw [hr] at h; cases h
        | some out' =>
          rw [hr] at h
          cases h
          obtain ⟨e1, vv⟩ := hp.head c3
          obtain ⟨j, cv⟩ := y
          simp only at e1 vv
          subst e1
          have hsz := vv.cells_size
          have hlen : (i + ((i, v) :: rest).length) * es = i * es + es + rest.length * es := by
            simp only [List.length_cons, Nat.add_mul, Nat.one_mul]; omega
          have hlen2 : (i + 1 + rest.length) * es = i * es + es + rest.length * es := by
            simp only [Nat.add_mul, Nat.one_mul]
          rw [hlen] at hs
          obtain ⟨cout, h1, h2, h3, h4⟩ := inOrder_V es rest crest (i + 1) out' (setA C (i * es) cv.cells.toList) hr hp.tail (by rw [setA_size, hlen2]; exact hs)
          refine ⟨cv.cells.toList ++ cout, ?_, ?_, ?_, ?_⟩
          · rw [fill_cons _ C i cv crest rfl (by omega) (by omega), h1, setA_append]
            congr 2
            simp only [Array.length_toList, Nat.add_mul, Nat.one_mul]
            omega
          · simp; omega
          · simp only [List.length_append, Array.length_toList, List.length_cons, Nat.add_mul, Nat.one_mul]; omega
          · intro q x y hx hy
            rw [List.getElem?_append] at hx hy
            simp only [Array.length_toList] at hx hy
            by_cases hq : q < v.cells.size
            · rw [if_pos hq] at hx
              rw [if_pos (by omega)] at hy
              exact V_cells vv c3 q x y hx hy
            · rw [if_neg hq] at hx
              rw [if_neg (by omega)] at hy
              rw [hsz] at hy
              exact h4 _ x y hx hy
      · cases h

theorem run_buildV {P : Program} {t : TypeId} {parts : List (Nat × Value)} {v : Value} (h : build P t parts = some v) {m : Map} {cparts : Array (Nat × Value)} (hp : PV m parts cparts.toList) (w : World) :
    ∃ cv, (Instr.build t cparts).run P w = .ok cv w ∧ V m v cv := by
  unfold build at h
  split at h
  · rename_i q1 q2 zero fs ht
    obtain ⟨fields, hd, rfl, hall⟩ := TI_struct ht rfl
    obtain ⟨i, d, z, hi, hd', hz, h1, h2, h3, h4, h5⟩ := TI_spec ht
    rw [hd] at hd'; cases hd'
    cases hf : fillL (fields.toList.map fun f => (f.offset, ((P.info? f.type).map (·.size)).getD 0)) zero parts with
    | none => rw [hf] at h; cases h
    | some out =>
      rw [hf] at h
      cases h
      simp only at h3
      have hz0 : Cells m zero z.cells 0 := by
        intro k x hx
        rw [h3] at hx
        simp only [Array.getElem?_toList] at hx
        have := h5 x (Array.mem_toList_iff.2 (Array.mem_of_getElem? hx))
        exact ⟨flat0_one this, x, by simpa using hx, .of_flat0 this⟩
      obtain ⟨C', g1, g2, g3⟩ := fill_V _ parts cparts.toList zero out z.cells hf hp (by rw [h3]; simp) hz0
      have hpl : fields.toList.mapM (fun f => (P.info? f.type).map fun i => (f.offset, i.size)) = some (fields.toList.map fun f => (f.offset, ((P.info? f.type).map (·.size)).getD 0)) := by
        generalize fields.toList = l at hall
        induction l with
        | nil => rfl
        | cons f l ih =>
          obtain ⟨j, hj⟩ := Option.isSome_iff_exists.1 (hall f (by simp))
          rw [List.mapM_cons, ih (fun g hg => hall g (by simp [hg]))]
          simp [hj]
      refine ⟨.agg C', run_build w t cparts C' ?_, .agg _ _ (by simp [g2]) ?_ ?_⟩
      · unfold Program.built
        simp only [hi, hd, hz, hpl]
        rw [← g1]
        congr 1
        funext k
        simp
      · intro k x hx
        simp only [List.getElem?_toArray] at hx
        exact (g3 k x hx).1
      · intro k x y hx hy
        simp only [List.getElem?_toArray] at hx
        obtain ⟨_, cv, hc, vv⟩ := g3 k x hx
        rw [Nat.zero_add] at hc
        rw [hc] at hy; cases hy
        exact vv
  · cases h

end Go.Abs
