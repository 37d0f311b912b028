/-
  THE ABSTRACT MACHINE AND THE MODEL: slicing, indexing, structs, conversions: what yields a value and leaves memory alone.
-/
import Derived.Test.YtifiajbjfoigcaaGreatAbsBin
namespace Go.Abs
open Go

theorem run_un {P : Program} {op : UnOp} {x v : Value} (h : un op x = some v) {m : Map} {cx : Value} (vx : V m x cx) (w : World) : (Op.unary op cx).run P w = .ok v w ∧ flat0 v = true := by
  unfold un at h
  split at h
  · cases V.eq_flat0 rfl vx; cases h
    exact ⟨rfl, rfl⟩
  · cases V.eq_flat0 rfl vx; cases h
    exact ⟨rfl, rfl⟩
  · cases V.eq_flat0 rfl vx; cases h
    exact ⟨rfl, rfl⟩
  · cases h

/-- Two values that may lack go together. -/
def OV (m : Map) : Option Value → Option Value → Prop
  | none, none => True
  | some x, some y => V m x y ∨ isLoc x = true
  | _, _ => False

theorem bound_V {m : Map} {d : Nat} {x cx : Option Value} (h : OV m x cx) {n : Nat} (hb : bound d x = some n) :
    (x = none ∧ cx = none ∧ n = d) ∨ ∃ k, x = some (.int k n) ∧ cx = some (.int k n) := by
  unfold bound at hb
  split at hb
  · cases cx with
    | none => cases hb; exact .inl ⟨rfl, rfl, rfl⟩
    | some _ => exact h.elim
  · cases cx with
    | none => exact h.elim
    | some y =>
      rename_i k i
      split at hb
      · rename_i hi
        cases hb
        rcases h with h | h
        · cases V.eq_flat0 rfl h
          exact .inr ⟨k, by simp; omega, by simp; omega⟩
        · cases h
      · cases hb
  · cases hb

/-- How the block of a slice has it with its elements' size. -/
def ES (m : Map) (H : Heap) : Prop := ∀ id e, m id = some e → id < H.size → e.es = (H.blk id).es

theorem HRel.es {m : Map} {H : Heap} {w : World} (h : HRel m H w) : ES m H := fun id e he _ => by
  obtain ⟨C, t, f, _, _, _, h4, _⟩ := h.blk id e he
  exact h4

theorem TI_slice {P : Program} {t : TypeId} {ti : TInfo} (ht : TI P t = some ti) {e es by_ : Nat} (hk : ti.k = .slice e es by_) :
    P.underlying t = some (.slice e) ∧ ∃ j z, P.info? e = some j ∧ j.zero = some z ∧ z.cells.size = j.size ∧ j.size = es ∧ j.bytes = by_ := by
  obtain ⟨i, d, z, hi, hd, hz, h1, h2, h3, h4, h5⟩ := TI_spec ht
  rw [h4] at hk
  unfold kindD at hk
  split at hk <;> try cases hk
  · split at hk <;> cases hk
  rename_i e'
  split at hk
  · rename_i j hj
    split at hk
    · rename_i z' hz'
      split at hk
      · rename_i hsz
        cases hk
        exact ⟨hd, j, z', hj, hz', hsz, rfl, rfl⟩
      · cases hk
    · cases hk
  · cases hk

theorem run_bound {P : Program} (n y : Nat) (k : IntKind) (code : BoundsCode) (h : n ≤ y) (w : World) : (Instr.sliceBound (.int k (n : Int)) y code).run P w = .ok n w := by
  unfold Instr.sliceBound
  simp [asIntOf]
  omega

theorem run_slice {P : Program} {H : Heap} {t : TypeId} {x v : Value} {lo hi mx : Option Value} (h : slice P H t x lo hi mx = some v) {m : Map} (hes : ES m H) {cx : Value} {clo chi cmx : Option Value}
    (vx : V m x cx) (vl : OV m lo clo) (vh : OV m hi chi) (vm : OV m mx cmx) (w : World) : ∃ cv, (Instr.sliceAt t cx clo chi cmx).run P w = .ok cv w ∧ V m v cv := by
  unfold slice at h
  split at h
  · -- a text
    rename_i b
    cases V.eq_flat0 rfl vx
    split at h
    · rename_i l hh hl hhh
      split at h
      · rename_i hc
        obtain ⟨c1, c2, c3⟩ := hc
        cases h
        have hd : P.underlying t = some .string := by
          unfold isStrD at c3
          split at c3
          · assumption
          · cases c3
        cases cmx with
        | some _ => exact vm.elim
        | none =>
        refine ⟨_, ?_, .str _⟩
        have b1 := bound_V vl hl
        have b2 := bound_V vh hhh
        simp only [Instr.sliceAt, Sem.run_bind, run_underlying hd, Result.andThen_ok, Instr.slice, Instr.sliceBounds]
        rcases b1 with ⟨_, rfl, rfl⟩ | ⟨k1, _, rfl⟩ <;> rcases b2 with ⟨_, rfl, rfl⟩ | ⟨k2, _, rfl⟩
        all_goals simp [run_bound, c1, c2]
      · cases h
    · cases h
  · -- nil
    rename_i len c
    cases vx
    split at h
    · rename_i q1 q2 q3 e es by_ ht
      obtain ⟨hd, j, z, hj, hz, hzs, rfl, rfl⟩ := TI_slice ht rfl
      split at h
      · rename_i hl hhh
        split at h
        · cases h
          cases cmx with
          | some _ => exact vm.elim
          | none =>
          refine ⟨_, ?_, .nils⟩
          have b1 := bound_V vl hl
          have b2 := bound_V vh hhh
          simp only [Instr.sliceAt, Sem.run_bind, run_underlying hd, Result.andThen_ok, Instr.slice, Instr.sliceBounds]
          rcases b1 with ⟨_, rfl, _⟩ | ⟨k1, _, rfl⟩ <;> rcases b2 with ⟨_, rfl, _⟩ | ⟨k2, _, rfl⟩
          all_goals
            have e1 := run_bound (P := P) 0 0
            simp at e1
            simp [e1, run_sz hj]
        · cases h
      · cases h
    · cases h
  · rename_i id off len c
    cases vx with
    | slc _ _ _ _ cap o e he hle hc ho htop =>
    split at h
    · rename_i q1 q2 q3 el es by_ ht
      obtain ⟨hd, j, z, hj, hz, hzs, rfl, rfl⟩ := TI_slice ht rfl
      split at h
      · rename_i hc2
        have hee : e.es = j.size := (hes id e he hc2.2).trans hc2.1
        split at h
        · rename_i l hh hl hhh
          have b1 := bound_V vl hl
          have b2 := bound_V vh hhh
          split at h
          · rename_i hlh
            have key : ∀ l' : Nat, l' ≤ cap → (e.s + off + cap * e.es ≤ e.top ∨ cap = 0) → (e.s + (off + l' * j.size) + (cap - l') * e.es ≤ e.top ∨ cap - l' = 0) := by
              intro l' h1 h2
              rcases h2 with h2 | h2
              · left
                have : l' * e.es + (cap - l') * e.es = cap * e.es := by rw [← Nat.add_mul]; congr 1; omega
                rw [← hee]
                omega
              · right; omega
            split at h
            · cases h
              cases cmx with
              | some _ => exact vm.elim
              | none =>
              have hrun : (Instr.sliceAt t (.slice (some ⟨e.b, o, none⟩) len cap) clo chi none).run P w =
                  .ok (.slice (if cap = l then some ⟨e.b, o, none⟩ else some ((⟨e.b, o, none⟩ : Addr).add (l * j.size))) (hh - l) (cap - l)) w := by
                simp only [Instr.sliceAt, Sem.run_bind, run_underlying hd, Result.andThen_ok, Instr.slice, Instr.sliceBounds]
                rcases b1 with ⟨_, rfl, rfl⟩ | ⟨k1, _, rfl⟩ <;> rcases b2 with ⟨_, rfl, rfl⟩ | ⟨k2, _, rfl⟩
                all_goals
                  simp only [Sem.run_bind, Sem.run_pure, Result.andThen_ok, run_sz hj, run_bound _ _ _ _ hlh.1, run_bound _ _ _ _ (Nat.le_trans hlh.2 hle), Option.isSome_none, Bool.false_eq_true, if_false]
                  try rfl
              refine ⟨_, hrun, ?_⟩
              by_cases hcl : cap = l
              · rw [if_pos hcl]
                exact .slc id (off + l * j.size) (hh - l) 0 (cap - l) o e he (by omega) (.inl rfl) (.inr (by omega)) (.inr (by omega))
              · rw [if_neg hcl]
                have ho' : o = e.s + off := ho.resolve_right (by omega)
                have hadd : (⟨e.b, o, none⟩ : Addr).add (l * j.size) = ⟨e.b, o + l * j.size, none⟩ := by unfold Addr.add; split <;> simp_all
                rw [hadd]
                exact .slc id (off + l * j.size) (hh - l) 0 (cap - l) _ e he (by omega) (.inl rfl) (.inl (by omega)) (key l (by omega) htop)
            · rename_i mv
              split at h
              · rename_i mm hm
                split at h
                · rename_i hcc
                  obtain ⟨g1, g2, g3⟩ := hcc
                  cases h
                  have b3 := bound_V vm hm
                  rcases b3 with ⟨h0, _⟩ | ⟨k3, _, rfl⟩
                  · cases h0
                  have hrun : (Instr.sliceAt t (.slice (some ⟨e.b, o, none⟩) len cap) clo chi (some (.int k3 mm))).run P w =
                      .ok (.slice (if mm = l then some ⟨e.b, o, none⟩ else some ((⟨e.b, o, none⟩ : Addr).add (l * j.size))) (hh - l) (mm - l)) w := by
                    simp only [Instr.sliceAt, Sem.run_bind, run_underlying hd, Result.andThen_ok, Instr.slice, Instr.sliceBounds]
                    rcases b1 with ⟨_, rfl, rfl⟩ | ⟨k1, _, rfl⟩ <;> rcases b2 with ⟨g0, rfl, rfl⟩ | ⟨k2, _, rfl⟩
                    · rw [g0] at g1; cases g1
                    · simp only [Sem.run_bind, Sem.run_pure, Result.andThen_ok, run_sz hj, run_bound _ _ _ _ g2, run_bound _ _ _ _ (Nat.le_trans g3 hle)]
                      try rfl
                    · rw [g0] at g1; cases g1
                    · simp only [Sem.run_bind, Sem.run_pure, Result.andThen_ok, run_sz hj, run_bound _ _ _ _ hlh.1, run_bound _ _ _ _ g2, run_bound _ _ _ _ (Nat.le_trans g3 hle), Option.isSome_some, if_true]
                      try rfl
                  refine ⟨_, hrun, ?_⟩
                  by_cases hcl : mm = l
                  · rw [if_pos hcl]
                    exact .slc id (off + l * j.size) (hh - l) (mm - l + 1) (mm - l) o e he (by omega) (.inr rfl) (.inr (by omega)) (.inr (by omega))
                  · rw [if_neg hcl]
                    have ho' : o = e.s + off := ho.resolve_right (by omega)
                    have hadd : (⟨e.b, o, none⟩ : Addr).add (l * j.size) = ⟨e.b, o + l * j.size, none⟩ := by unfold Addr.add; split <;> simp_all
                    rw [hadd]
                    refine .slc id (off + l * j.size) (hh - l) (mm - l + 1) (mm - l) _ e he (by omega) (.inr rfl) (.inl (by omega)) ?_
                    rcases key l (by omega) htop with h2 | h2
                    · left
                      have : (mm - l) * e.es ≤ (cap - l) * e.es := Nat.mul_le_mul_right _ (by omega)
                      omega
                    · right; omega
                · cases h
              · cases h
          · cases h
        · cases h
      · cases h
    · cases h
  · cases h


theorem run_indexAddr {P : Program} {t : TypeId} {x i v : Value} (h : indexAddr P t x i = some v) {m : Map} {cx ci : Value} (vx : V m x cx) (vi : V m i ci) (w : World) :
    ∃ cv, (Instr.indexAt t cx ci).run P w = .ok cv w ∧ V m v cv := by
  unfold indexAddr at h
  split at h
  · rename_i q1 q2 q3 el es by_ id off len c k n ht
    obtain ⟨hd, j, z, hj, hz, hzs, rfl, rfl⟩ := TI_slice ht rfl
    cases vx with
    | slc _ _ _ _ cap o e he hle hc ho htop =>
    cases V.eq_flat0 rfl vi
    split at h
    · rename_i hn
      cases h
      have ho' : o = e.s + off := ho.resolve_right (by omega)
      have hadd : (⟨e.b, o, none⟩ : Addr).add (n.toNat * j.size) = ⟨e.b, e.s + (off + n.toNat * j.size), none⟩ := by unfold Addr.add; split <;> simp_all; omega
      refine ⟨_, ?_, .ptr id (off + n.toNat * j.size) e he⟩
      simp [Instr.indexAt, asIntOf, run_underlying hd, run_sz hj, hn.1, hn.2, hadd]
    · cases h
  · cases h

theorem run_index {P : Program} {t : TypeId} {x i v : Value} (h : index P t x i = some v) {m : Map} {cx ci : Value} (vx : V m x cx) (vi : V m i ci) (w : World) :
    (Instr.index t cx ci).run P w = .ok v w ∧ flat0 v = true := by
  unfold index at h
  split at h
  · rename_i b k n hd
    cases V.eq_flat0 rfl vx; cases V.eq_flat0 rfl vi
    split at h
    · rename_i hn
      cases hb : b[n.toNat]? with
      | none => rw [hb] at h; cases h
      | some c =>
        rw [hb] at h
        cases h
        exact ⟨by simp [Instr.index, asIntOf, run_underlying hd, hn, hb], rfl⟩
    · cases h
  · cases h

theorem run_fieldOf {P : Program} {t : TypeId} {x v : Value} {f : Nat} (h : fieldOf P t x f = some v) {m : Map} {cx : Value} (vx : V m x cx) (w : World) :
    ∃ cv, (Instr.field t cx f).run P w = .ok cv w ∧ V m v cv := by
  unfold fieldOf at h
  split at h
  · rename_i fs xs hd
    cases vx with
    | agg _ ys hs h1 hh =>
    split at h
    · rename_i fd hf
      split at h
      · rename_i ti ht
        cases hw : window xs.toList fd.offset ti.size with
        | none => rw [hw] at h; cases h
        | some l =>
          rw [hw] at h
          obtain ⟨cl, cw, cl', cv⟩ := window_V hs h1 hh hw
          obtain ⟨ca, hca, va⟩ := mk_V h cl cl' cv
          exact ⟨ca, by simp [Instr.field, run_underlying hd, hf, asAgg, run_part ht ys fd.offset cl cw hca], va⟩
      · cases h
    · cases h
  · cases h

theorem TI_struct {P : Program} {t : TypeId} {ti : TInfo} (ht : TI P t = some ti) {fs : List (Nat × Nat)} (hk : ti.k = .strct fs) :
    ∃ fields, P.underlying t = some (.struct fields) ∧ fs = (fields.toList.map fun f => (f.offset, ((P.info? f.type).map (·.size)).getD 0)) ∧ ∀ f ∈ fields.toList, (P.info? f.type).isSome = true := by
  obtain ⟨i, d, z, hi, hd, hz, h1, h2, h3, h4, h5⟩ := TI_spec ht
  rw [h4] at hk
  unfold kindD at hk
  split at hk
  all_goals try cases hk
  · split at hk
    · rename_i ha
      cases hk
      exact ⟨_, hd, rfl, List.all_eq_true.1 ha⟩
    · cases hk
  · split at hk
    · split at hk
      · split at hk <;> cases hk
      · cases hk
    · cases hk

theorem run_fieldAddr {P : Program} {t : TypeId} {x v : Value} {f : Nat} (h : fieldAddr P t x f = some v) {m : Map} {β : LMap} {cx : Value} (vx : VL m β x cx) (w : World) :
    ∃ cv, (Instr.fieldAt t cx f).run P w = .ok cv w ∧ VL m β v cv := by
  unfold fieldAddr at h
  split at h
  · rename_i q1 q2 q3 fs ht
    obtain ⟨fields, hd, rfl, _⟩ := TI_struct ht rfl
    split at h
    · rename_i off size hf
      split at h
      · cases h
      · rename_i hsz
        simp only [List.getElem?_map, Array.getElem?_toList] at hf
        cases hfd : fields[f]? with
        | none => rw [hfd] at hf; cases hf
        | some fd =>
          rw [hfd] at hf
          simp only [Option.map_some, Option.some.injEq, Prod.mk.injEq] at hf
          obtain ⟨rfl, rfl⟩ := hf
          cases hi : P.info? fd.type with
          | none => rw [hi] at hsz; exact absurd rfl hsz
          | some i =>
            rw [hi] at hsz
            simp only [Option.map_some, Option.getD_some] at hsz
            have hrun : ∀ b o, (Instr.fieldAt t (.pointer (some ⟨b, o, none⟩)) f).run P w = .ok (.pointer (some ⟨b, o + fd.offset, none⟩)) w := by
              intro b o
              have hadd : (⟨b, o, none⟩ : Addr).add fd.offset = ⟨b, o + fd.offset, none⟩ := by unfold Addr.add; split <;> simp_all
              simp [Instr.fieldAt, run_underlying hd, hfd, Instr.sureAddr, fieldPlace, run_sz hi, hsz, hadd]
            unfold atOff at h
            split at h
            · cases h
              rcases vx with ⟨l, o, b, h1, h2, h3⟩ | h1 | h1
              · cases h1; subst h3
                exact ⟨_, hrun _ _, .inl ⟨_, _, b, rfl, h2, rfl⟩⟩
              · cases h1
              · cases h1
            · cases h
              rcases vx with ⟨l, o, b, h1, h2, h3⟩ | h1 | h1
              · cases h1
              · cases h1
              · cases h1 with
                | ptr id off e he => exact ⟨_, hrun _ _, .inr (.inr (by rw [Nat.add_assoc]; exact .ptr _ _ e he))⟩
            · cases h
    · cases h
  · cases h

theorem run_len {P : Program} {t : TypeId} {x v : Value} (h : len P t x = some v) {m : Map} {cx : Value} (vx : V m x cx) (ty : TypeId) (w : World) :
    (Builtin.len_ #[t] ty #[cx]).run P w = .ok v w ∧ flat0 v = true := by
  unfold len at h
  split at h
  · rename_i b hd
    cases V.eq_flat0 rfl vx; cases h
    exact ⟨by simp [Builtin.len_, run_underlying hd, goInt], rfl⟩
  · rename_i a n c hd
    cases h
    refine ⟨?_, rfl⟩
    cases vx <;> simp [Builtin.len_, run_underlying hd, goInt]
  · cases h

theorem run_minmax {P : Program} (mn : Bool) {m : Map} (w : World) : ∀ (l cl : List Value) (x cx v : Value), minmax mn x l = some v → V m x cx → l.length = cl.length →
    (∀ (i : Nat) a b, l[i]? = some a → cl[i]? = some b → V m a b ∨ isLoc a = true) → (cl.foldlM (if mn then Builtin.min2 else Builtin.max2) cx).run P w = .ok v w ∧ flat0 v = true
  | [], cl, x, cx, v, h, vx, hl, hh => by
    cases cl with
    | nil =>
      unfold minmax at h
      split at h
      · cases V.eq_flat0 rfl vx; cases h; exact ⟨rfl, rfl⟩
      · rename_i e; cases e
      · cases h
    | cons _ _ => cases hl
  | y :: r, cl, x, cx, v, h, vx, hl, hh => by
    cases cl with
    | nil => cases hl
    | cons cy cr =>
      unfold minmax at h
      split at h
      · rename_i e; cases e
      · rename_i k a k' b r' e
        cases e
        cases V.eq_flat0 rfl vx
        split at h
        · rename_i hk
          subst hk
          rcases hh 0 _ cy rfl rfl with h0 | h0
          · cases V.eq_flat0 rfl h0
            have ih := run_minmax (P := P) mn w r cr _ _ v h (V.int k _) (by simpa using hl) (fun i a b ha hb => hh (i + 1) a b (by simpa using ha) (by simpa using hb))
            refine ⟨?_, ih.2⟩
            rw [List.foldlM_cons, Sem.run_bind]
            cases mn
            · have : (Builtin.max2 (.int k a) (.int k b)).run P w = .ok (.int k (if a < b then b else a)) w := by
                simp only [Builtin.max2, Sem.run_pure]
                try rfl
              simp only [Bool.false_eq_true, if_false, this, Result.andThen_ok] at ih ⊢
              exact ih.1
            · have : (Builtin.min2 (.int k a) (.int k b)).run P w = .ok (.int k (if b < a then b else a)) w := rfl
              simp only [if_true, this, Result.andThen_ok] at ih ⊢
              exact ih.1
          · cases h0
        · cases h
      · cases h

end Go.Abs
