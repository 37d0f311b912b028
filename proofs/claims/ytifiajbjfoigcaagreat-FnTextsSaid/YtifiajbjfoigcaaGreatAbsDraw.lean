/-
  THE ABSTRACT MACHINE AND THE MODEL: a region whose order is drawn: whichever order it is, it comes to what the text's order comes to.
-/
import Derived.Test.YtifiajbjfoigcaaGreatAbsDrawB
namespace Go.Abs
open Go
set_option linter.unusedSimpArgs false

/-! ### The run in the text's order -/

structure Trace (P : Program) (C : Oracle) (ls : List Nat) (ops : Array Oper) (ms : List Nat) (st : Nat → St) (ft : Nat → Foot) : Prop where
  op : ∀ i o, ops[i]? = some o → evOp P C ls ops o (st i) = some (st (i + 1)) ∧ foot ls o (st i) (st (i + 1)) = some (ft i)
  cf : ∀ k i, k < i → i < ops.size → compat (ft k) (ft i) = true ∨ (ms.getD i 0).testBit k = true

theorem trace_go {P : Program} {C : Oracle} {ls : List Nat} {ops : Array Oper} {ms : List Nat} : ∀ (rest : List Oper) (fs : List Foot) (s s' : St), evDraw P C ls ops ms fs rest s = some s' →
    ∃ (st : Nat → St) (ft : Nat → Foot), st fs.length = s ∧ st (fs.length + rest.length) = s' ∧ (∀ k g, fs[k]? = some g → ft k = g) ∧
      ∀ j o, rest[j]? = some o → evOp P C ls ops o (st (fs.length + j)) = some (st (fs.length + j + 1)) ∧ foot ls o (st (fs.length + j)) (st (fs.length + j + 1)) = some (ft (fs.length + j)) ∧
        ∀ k, k < fs.length + j → compat (ft k) (ft (fs.length + j)) = true ∨ (ms.getD (fs.length + j) 0).testBit k = true
  | [], fs, s, s', h => by
    cases h
    exact ⟨fun _ => s, fun k => fs.getD k .pure, rfl, rfl, fun k g hg => by simp [List.getD_eq_getElem?_getD, hg], fun j o ho => by simp at ho⟩
  | o :: rest, fs, s, s', h => by
    unfold evDraw at h
    split at h
    · rename_i s1 h1
      split at h
      · rename_i f hf
        split at h
        · rename_i ha
          obtain ⟨st, ft, e1, e2, e3, e4⟩ := trace_go rest (fs ++ [f]) s1 s' h
          have el : (fs ++ [f]).length = fs.length + 1 := by simp
          rw [el] at e1 e2 e4
          have hfl : ft fs.length = f := e3 fs.length f (by simp)
          refine ⟨fun i => if i = fs.length then s else st i, ft, by simp, ?_, fun k g hg => e3 k g ?_, fun j p hp => ?_⟩
          · refine (if_neg (by simp)).trans ?_
            rw [← e2]
            congr 1
            simp
            omega
          · rw [List.getElem?_append_left (List.getElem?_eq_some_iff.1 hg).1]
            exact hg
          · cases j with
            | zero =>
              cases hp
              refine ⟨?_, ?_, fun k hk => ?_⟩
              · simp only [Nat.add_zero, if_true]
                rw [if_neg (by omega), e1, h1]
              · simp only [Nat.add_zero, if_true]
                rw [if_neg (by omega), e1, hf, hfl]
              · simp only [Nat.add_zero] at hk ⊢
                rw [hfl]
                unfold agree at ha
                rw [List.all_eq_true] at ha
                have hg : fs[k]? = some fs[k] := List.getElem?_eq_getElem hk
                have := ha (fs[k], k) (by rw [List.mem_zipIdx_iff_getElem?]; exact hg)
                have hk2 : ft k = fs[k] := e3 k fs[k] (by rw [List.getElem?_append_left hk]; exact hg)
                rw [hk2]
                simpa [Bool.or_eq_true] using this
            | succ j =>
              have hp' : rest[j]? = some p := by simpa using hp
              obtain ⟨g1, g2, g3⟩ := e4 j p hp'
              have ei : fs.length + (j + 1) = fs.length + 1 + j := by omega
              rw [ei]
              simp only [show ¬ fs.length + 1 + j = fs.length by omega, show ¬ fs.length + 1 + j + 1 = fs.length by omega, if_false]
              exact ⟨g1, g2, g3⟩
        · cases h
      · cases h
    · cases h

theorem trace_of {P : Program} {C : Oracle} {ls : List Nat} {ops : Array Oper} {ms : List Nat} {s s' : St} (h : evDraw P C ls ops ms [] ops.toList s = some s') :
    ∃ st ft, Trace P C ls ops ms st ft ∧ st 0 = s ∧ st ops.size = s' := by
  obtain ⟨st, ft, e1, e2, _, e4⟩ := trace_go ops.toList [] s s' h
  simp only [List.length_nil, Nat.zero_add, Array.length_toList] at e1 e2 e4
  refine ⟨st, ft, ⟨fun i o ho => ?_, fun k i hk hi => ?_⟩, e1, e2⟩
  · exact ⟨(e4 i o (by simpa using ho)).1, (e4 i o (by simpa using ho)).2.1⟩
  · exact (e4 i ops[i] (by simp [hi])).2.2 k hk

/-! ### Places of the text's order at which all that writes something is listed as the schedule has it -/

def Jw (n : Nat) (W L : Nat → Prop) (j : Nat) : Prop := j ≤ n ∧ ∀ k, k < n → W k → (k < j ↔ L k)
def Bound (B : Nat → Nat → Prop) (n : Nat) (W : Nat → Prop) (i : Nat) : Prop := ∀ k, k < n → W k → (k < i → B k i) ∧ (i < k → B i k)
def with_ (L : Nat → Prop) (i : Nat) : Nat → Prop := fun k => L k ∨ k = i

section
variable {B : Nat → Nat → Prop} {n : Nat} {W L : Nat → Prop} {i j : Nat}

theorem J_ready (hc : ∀ k, L k → ∀ j, B j k → L j) (hL : ∀ k, B k i → L k) (hi : i < n) (hni : ¬ L i) (hb : Bound B n W i) : Jw n W L i := by
  refine ⟨Nat.le_of_lt hi, fun k hk hw => ⟨fun h => hL k ((hb k hk hw).1 h), fun hl => ?_⟩⟩
  rcases Nat.lt_trichotomy k i with h | h | h
  · exact h
  · subst h; exact absurd hl hni
  · exact absurd (hc k hl i ((hb k hk hw).2 h)) hni

theorem J_next (h : Jw n W L i) (hi : i < n) (hw : ¬ W i) : Jw n W L (i + 1) := by
  refine ⟨hi, fun k hk hwk => ?_⟩
  have hne : k ≠ i := fun e => hw (e ▸ hwk)
  rw [← h.2 k hk hwk]
  omega

theorem J_addN (hw : ¬ W i) : Jw n W (with_ L i) j ↔ Jw n W L j := by
  unfold Jw with_
  constructor
  · rintro ⟨h1, h2⟩
    refine ⟨h1, fun k hk hwk => ?_⟩
    have hne : k ≠ i := fun e => hw (e ▸ hwk)
    rw [h2 k hk hwk]
    simp [hne]
  · rintro ⟨h1, h2⟩
    refine ⟨h1, fun k hk hwk => ?_⟩
    have hne : k ≠ i := fun e => hw (e ▸ hwk)
    rw [h2 k hk hwk]
    simp [hne]

theorem J_addW (hc : ∀ k, L k → ∀ j, B j k → L j) (hi : i < n) (hw : W i) (hni : ¬ L i) (hb : Bound B n W i) (h : Jw n W (with_ L i) j) : i + 1 ≤ j ∧ ∀ k, i + 1 ≤ k → k < j → ¬ W k := by
  refine ⟨(h.2 i hi hw).2 (.inr rfl), fun k hk hkj hwk => ?_⟩
  have hkn : k < n := Nat.lt_of_lt_of_le hkj h.1
  rcases (h.2 k hkn hwk).1 hkj with hl | hl
  · exact hni (hc k hl i ((hb k hkn hwk).2 hk))
  · omega

theorem J_top (hc : ∀ k, L k → ∀ j, B j k → L j) (hb : ∀ i, i < n → W i → Bound B n W i) : ∃ e, Jw n W L e ∧ ∀ j, Jw n W L j → j ≤ e := by
  by_cases h : ∃ k, k < n ∧ W k ∧ ¬ L k
  · obtain ⟨e, ⟨h1, h2, h3⟩, hm⟩ := least h
    refine ⟨e, ⟨Nat.le_of_lt h1, fun k hk hw => ⟨fun hlt => ?_, fun hl => ?_⟩⟩, fun j hj => ?_⟩
    · exact Classical.byContradiction fun hn => hm k hlt ⟨hk, hw, hn⟩
    · rcases Nat.lt_trichotomy k e with hh | hh | hh
      · exact hh
      · subst hh; exact absurd hl h3
      · exact absurd (hc k hl e ((hb e h1 h2 k hk hw).2 hh)) h3
    · rcases Nat.lt_or_ge e j with hlt | hge
      · exact absurd ((hj.2 e h1 h2).1 hlt) h3
      · exact hge
  · refine ⟨n, ⟨Nat.le_refl _, fun k hk hw => ⟨fun _ => Classical.byContradiction fun hn => h ⟨k, hk, hw, hn⟩, fun _ => hk⟩⟩, fun j hj => hj.1⟩

theorem J_path {x y : Nat} (hx : Jw n W L x) (hy : Jw n W L y) : ∀ k, x ≤ k → k < y → ¬ W k := fun k hk hky hw => by
  have hkn : k < n := Nat.lt_of_lt_of_le hky hy.1
  have h1 := (hy.2 k hkn hw).1 hky
  have h2 := (hx.2 k hkn hw).2 h1
  omega

end

theorem Ext.trans {a b c : Heap} (h : Ext a b) (k : Ext b c) : Ext a c := ⟨Nat.le_trans h.1 k.1, fun i hi => (k.2 i (Nat.lt_of_lt_of_le hi h.1)).trans (h.2 i hi)⟩

theorem Grown.trans {a b c : Heap} (h : Grown a b) (k : Grown b c) : Grown a c := by
  refine ⟨h.1.trans k.1, fun i h1 h2 => ?_⟩
  rcases Nat.lt_or_ge i b.size with hi | hi
  · rw [k.1.2 i hi]; exact h.2 i h1 hi
  · exact Nat.le_trans h.1.1 (k.2 i hi h2)

/-- What an operation may change, by its footprint. -/
theorem step_shape {P : Program} {C : Oracle} {ls : List Nat} {ops : Array Oper} {o : Oper} {s s' : St} {f : Foot} (hev : evOp P C ls ops o s = some s') (hf : foot ls o s s' = some f) :
    ∃ v H' loc' gen', s' = { s with heap := H', loc := loc', gen := gen' }.put o.dst v ∧ (f ≠ .ext → f ≠ .mut → H' = s.heap) ∧ (∀ l, f ≠ .locW l → loc' l = s.loc l) ∧ s.gen ≤ gen' := by
  rcases foot_cases hf with ⟨rfl, hq⟩ | ⟨hq, hfm, hff⟩ | ⟨l, t, a, rfl, ho, hl⟩ | ⟨l, t, a, x, rfl, ho, hl⟩ | ⟨rfl, ho, hl⟩
  · obtain ⟨v, h1, _⟩ := evOp_quiet hq hev
    exact ⟨v, s.heap, s.loc, s.gen, h1, fun _ _ => rfl, fun _ _ => rfl, Nat.le_refl _⟩
  · obtain ⟨v, H', h1, _⟩ := evOp_heap hq hff hev
    exact ⟨v, H', s.loc, s.gen, h1, fun h1 h2 => by rcases hfm with rfl | rfl <;> contradiction, fun _ _ => rfl, Nat.le_refl _⟩
  · obtain ⟨v, h1, _⟩ := evOp_locR ho hl hev
    exact ⟨v, s.heap, s.loc, s.gen, h1, fun _ _ => rfl, fun _ _ => rfl, Nat.le_refl _⟩
  · obtain ⟨c, h1, _⟩ := evOp_locW ho hl hev
    refine ⟨undef, s.heap, _, s.gen, h1, fun _ _ => rfl, fun l' hl' => ?_, Nat.le_refl _⟩
    have : l' ≠ l := fun e => hl' (by rw [e])
    simp [updL, this]
  · obtain ⟨c, g, v, hg1, hg2, h1, _⟩ := evOp_birth ho hl hev
    refine ⟨v, s.heap, _, g, h1, fun _ _ => rfl, fun l' hl' => ?_, hg1⟩
    have : l' ≠ s.gen := fun e => hl' (by rw [e])
    simp [updL, this]

theorem put_env_ne {s : St} {dst : Option Tmp} {v : Value} {t : Tmp} (h : dst ≠ some t) : (s.put dst v).env t = s.env t := by
  cases dst with
  | none => rfl
  | some d =>
    have : t ≠ d := fun e => h (by rw [e])
    simp [St.put, this]

/-- Writers. -/
def Wt (ops : Array Oper) (t : Tmp) (k : Nat) : Prop := ∃ o, ops[k]? = some o ∧ o.dst = some t
def Wh (ft : Nat → Foot) (k : Nat) : Prop := ft k = .mut
def Wl (ft : Nat → Foot) (l k : Nat) : Prop := ft k = .locW l

section
variable {P : Program} {C : Oracle} {ls : List Nat} {ops : Array Oper} {ms : List Nat} {st : Nat → St} {ft : Nat → Foot}

theorem Trace.step (tr : Trace P C ls ops ms st ft) {i : Nat} (hi : i < ops.size) :
    (∀ t, ¬ Wt ops t i → (st (i + 1)).env t = (st i).env t) ∧ (st (i + 1)).nt = (st i).nt ∧ (ft i ≠ .ext → ft i ≠ .mut → (st (i + 1)).heap = (st i).heap) ∧
    (∀ l, ft i ≠ .locW l → (st (i + 1)).loc l = (st i).loc l) ∧ (st i).gen ≤ (st (i + 1)).gen ∧ (ft i ≠ .mut → Grown (st i).heap (st (i + 1)).heap) ∧ (st i).heap.size ≤ (st (i + 1)).heap.size := by
  obtain ⟨h1, h2⟩ := tr.op i ops[i] (by simp [hi])
  obtain ⟨v, H', loc', gen', e, e1, e2, e3⟩ := step_shape h1 h2
  have hheap : ft i ≠ .ext → ft i ≠ .mut → (st (i + 1)).heap = (st i).heap := fun g1 g2 => by rw [e, put_heap]; exact e1 g1 g2
  have hgrown : ft i ≠ .mut → Grown (st i).heap (st (i + 1)).heap := fun g => by
    by_cases g2 : ft i = .ext
    · exact (foot_heap h1 h2).2 g2
    · rw [hheap g2 g]; exact Grown.refl _
  refine ⟨fun t ht => ?_, by rw [e, put_nt], hheap, fun l hl => by rw [e, put_loc]; exact e2 l hl, by rw [e, put_gen]; exact e3, hgrown, ?_⟩
  · rw [e, put_env_ne fun hd => ht ⟨ops[i], by simp [hi], hd⟩]
  · by_cases g : ft i = .mut
    · exact (foot_heap h1 h2).1 g
    · exact (hgrown g).1.1

theorem Trace.env_path (tr : Trace P C ls ops ms st ft) {t x : Nat} : ∀ {y : Nat}, x ≤ y → y ≤ ops.size → (∀ k, x ≤ k → k < y → ¬ Wt ops t k) → (st y).env t = (st x).env t := by
  intro y hxy
  induction hxy with
  | refl => intro _ _; rfl
  | step h ih =>
    rename_i y
    intro hy hk
    have h' : x ≤ y := h
    rw [(tr.step (show y < ops.size from hy)).1 t (hk y h' (Nat.lt_succ_self _)), ih (Nat.le_of_succ_le hy) fun k h1 h2 => hk k h1 (Nat.lt_succ_of_lt h2)]

theorem Trace.loc_path (tr : Trace P C ls ops ms st ft) {l x : Nat} : ∀ {y : Nat}, x ≤ y → y ≤ ops.size → (∀ k, x ≤ k → k < y → ¬ Wl ft l k) → (st y).loc l = (st x).loc l := by
  intro y hxy
  induction hxy with
  | refl => intro _ _; rfl
  | step h ih =>
    rename_i y
    intro hy hk
    have h' : x ≤ y := h
    rw [(tr.step (show y < ops.size from hy)).2.2.2.1 l (hk y h' (Nat.lt_succ_self _)), ih (Nat.le_of_succ_le hy) fun k h1 h2 => hk k h1 (Nat.lt_succ_of_lt h2)]

theorem Trace.grown (tr : Trace P C ls ops ms st ft) {x : Nat} : ∀ {y : Nat}, x ≤ y → y ≤ ops.size → (∀ k, x ≤ k → k < y → ¬ Wh ft k) → Grown (st x).heap (st y).heap := by
  intro y hxy
  induction hxy with
  | refl => intro _ _; exact Grown.refl _
  | step h ih =>
    rename_i y
    intro hy hk
    have h' : x ≤ y := h
    exact (ih (Nat.le_of_succ_le hy) fun k h1 h2 => hk k h1 (Nat.lt_succ_of_lt h2)).trans ((tr.step (show y < ops.size from hy)).2.2.2.2.2.1 (hk y h' (Nat.lt_succ_self _)))

theorem Trace.mono (tr : Trace P C ls ops ms st ft) {x : Nat} : ∀ {y : Nat}, x ≤ y → y ≤ ops.size → (st x).heap.size ≤ (st y).heap.size ∧ (st x).gen ≤ (st y).gen ∧ (st y).nt = (st x).nt := by
  intro y hxy
  induction hxy with
  | refl => intro _; exact ⟨Nat.le_refl _, Nat.le_refl _, rfl⟩
  | step h ih =>
    rename_i y
    intro hy
    obtain ⟨h1, h2, h3⟩ := ih (Nat.le_of_succ_le hy)
    have hs := tr.step (show y < ops.size from hy)
    exact ⟨Nat.le_trans h1 hs.2.2.2.2.2.2, Nat.le_trans h2 hs.2.2.2.2.1, hs.2.1.trans h3⟩

/-- What holds while some of the operations have been carried out. -/
structure Inv (ops : Array Oper) (st : Nat → St) (ft : Nat → Foot) (m0 : Map) (β0 : LMap) (w0 : World) (L : Nat → Prop) (m : Map) (β : LMap) (a : Act) (w : World) : Prop where
  nt : a.tmps.size = (st 0).nt
  df : a.defers = []
  env : ∀ t j, Jw ops.size (Wt ops t) L j → VL m β ((st j).env t) (a.tmps.getD t undef) ∧ Cl (st j).heap.size ((st j).env t)
  heap : ∀ e, Jw ops.size (Wh ft) L e → (∀ j, Jw ops.size (Wh ft) L j → j ≤ e) → HRel m (st e).heap w
  clh : ∀ j, Jw ops.size (Wh ft) L j → ∀ id e, m id = some e → id < (st j).heap.size → ∀ c ∈ ((st j).heap.blk id).cells, Cl (st j).heap.size c
  loc : ∀ l b, β l = some b → ∀ j, Jw ops.size (Wl ft l) L j →
    (∃ C t f, w.heap[b]? = some (Obj.cells C t f) ∧ C.size = ((st j).loc l).length ∧ free f C ∧ Cells m ((st j).loc l) C 0) ∧ ∀ c ∈ (st j).loc l, Cl (st j).heap.size c
  inj : ∀ l k b, β l = some b → β k = some b → l = k
  sep : ∀ l b id e, β l = some b → m id = some e → e.b ≠ b
  domH : ∀ id e, m id = some e → id < (st 0).heap.size ∨ ∃ k, L k ∧ k < ops.size ∧ (ft k = .ext ∨ ft k = .mut) ∧ (st k).heap.size ≤ id ∧ id < (st (k + 1)).heap.size
  domL : ∀ l b, β l = some b → l < (st 0).gen ∨ ∃ k, L k ∧ k < ops.size ∧ ft k = .locW l ∧ (st k).gen ≤ l ∧ l < (st (k + 1)).gen
  le : Le m0 m
  lel : LeL β0 β
  fr : Fr m0 β0 (st 0).heap.size (st 0).gen w0 m β w

/-- What is known of an operation that may be carried out now. -/
structure Ready (ops : Array Oper) (B : Nat → Nat → Prop) (L : Nat → Prop) (i : Nat) (o : Oper) : Prop where
  op : ops[i]? = some o
  new : ¬ L i
  closed : ∀ k, L k → ∀ j, B j k → L j
  all : ∀ k, B k i → L k
  tmps : ∀ t ∈ looks ops.toList o, Bound B ops.size (Wt ops t) i

theorem Ready.lt {B : Nat → Nat → Prop} {L : Nat → Prop} {i : Nat} {o : Oper} (r : Ready ops B L i o) : i < ops.size := (Array.getElem?_eq_some_iff.1 r.op).1

/-- What is ordered: by the masks. -/
abbrev Bm (ms : List Nat) (k i : Nat) : Prop := (ms.getD i 0).testBit k = true

theorem Trace.boundOf (tr : Trace P C ls ops ms st ft) {W : Nat → Prop} {i : Nat} (hi : i < ops.size) (h : ∀ k, W k → compat (ft k) (ft i) = false ∧ compat (ft i) (ft k) = false) : Bound (Bm ms) ops.size W i := by
  intro k hk hw
  obtain ⟨h1, h2⟩ := h k hw
  refine ⟨fun hlt => ?_, fun hlt => ?_⟩
  · rcases tr.cf k i hlt hi with g | g
    · rw [h1] at g; cases g
    · exact g
  · rcases tr.cf i k hlt hk with g | g
    · rw [h2] at g; cases g
    · exact g

section
variable {m0 : Map} {β0 : LMap} {w0 : World} {L : Nat → Prop} {m : Map} {β : LMap} {a : Act} {w : World} {i : Nat} {o : Oper}

theorem Ready.J (r : Ready ops (Bm ms) L i o) {W : Nat → Prop} (hb : Bound (Bm ms) ops.size W i) : Jw ops.size W L i := J_ready r.closed r.all r.lt r.new hb

/-- The new temporary, and all the others. -/
theorem env_next (tr : Trace P C ls ops ms st ft) (r : Ready ops (Bm ms) L i o) (inv : Inv ops st ft m0 β0 w0 L m β a w) {m' : Map} {β' : LMap} (hm : Le m m') (hβ : LeL β β') {v cv : Value} {q : St}
    (hs : st (i + 1) = q.put o.dst v) (hq : ∀ t, q.env t = (st i).env t) (hqn : q.nt = (st i).nt) (hv : ∀ d, o.dst = some d → d < q.nt → VL m' β' v cv ∧ Cl (st (i + 1)).heap.size v) :
    ∀ t j, Jw ops.size (Wt ops t) (with_ L i) j → VL m' β' ((st j).env t) ((a.put o.dst cv).tmps.getD t undef) ∧ Cl (st j).heap.size ((st j).env t) := by
  intro t j hj
  have hnt : (st i).nt = (st 0).nt := (tr.mono (Nat.zero_le i) (Nat.le_of_lt r.lt)).2.2
  by_cases hw : Wt ops t i
  · obtain ⟨o', ho', hd⟩ := hw
    have : o' = o := by rw [r.op] at ho'; exact (Option.some.inj ho').symm
    subst this
    have hb := r.tmps t (looks_dst hd)
    obtain ⟨h1, h2⟩ := J_addW r.closed r.lt ⟨o', ho', hd⟩ r.new hb hj
    rw [tr.env_path h1 hj.1 h2]
    have hsz := (tr.mono h1 hj.1).1
    rw [hs, hd]
    simp only [St.put, Act.put, getD_set]
    by_cases hlt : t < q.nt
    · have hlt2 : t < a.tmps.size := by rw [inv.nt, ← hnt, ← hqn]; exact hlt
      simp only [hlt, hlt2, and_self, if_true]
      exact ⟨(hv t hd hlt).1, (hv t hd hlt).2.mono hsz⟩
    · have hlt2 : ¬ t < a.tmps.size := by rw [inv.nt, ← hnt, ← hqn]; exact hlt
      simp only [hlt, hlt2, and_false, if_false]
      rw [hq]
      obtain ⟨g1, g2⟩ := inv.env t i (r.J hb)
      exact ⟨g1.mono hm hβ, g2.mono (Nat.le_trans (tr.step r.lt).2.2.2.2.2.2 hsz)⟩
  · have hj' := (J_addN hw).1 hj
    obtain ⟨g1, g2⟩ := inv.env t j hj'
    refine ⟨?_, g2⟩
    have : (a.put o.dst cv).tmps.getD t undef = a.tmps.getD t undef := by
      cases hd : o.dst with
      | none => rfl
      | some d =>
        have hne : t ≠ d := fun e => hw ⟨o, r.op, by rw [hd, e]⟩
        simp only [Act.put, getD_set]
        simp [hne]
    rw [this]
    exact g1.mono hm hβ

theorem act_put (a : Act) (dst : Option Tmp) (v : Value) : (a.put dst v).tmps.size = a.tmps.size ∧ (a.put dst v).defers = a.defers := by
  cases dst <;> simp [Act.put]

/-- An operation that has to do with the heap. -/
theorem step_heap (tr : Trace P C ls ops ms st ft) (hC : Sound P C) (r : Ready ops (Bm ms) L i o) (inv : Inv ops st ft m0 β0 w0 L m β a w) (hq : quietAt (st i) o.op = false) (hf : ft i = .ext ∨ ft i = .mut)
    (hff : ∀ s', foot ls o (st i) s' = some .ext ∨ foot ls o (st i) s' = some .mut ∨ foot ls o (st i) s' = none) {K : Act → World → Prop} {Q : Exit → Act → World → Prop}
    (hK : ∀ m' β' a' w', Inv ops st ft m0 β0 w0 (with_ L i) m' β' a' w' → K a' w') :
    if Region.wanted o (yielded ops a.tmps) then o.wp P a w K Q else K (a.put o.dst undef) w := by
  obtain ⟨hev, hfoot⟩ := tr.op i o r.op
  obtain ⟨v, H', hs', hcong⟩ := evOp_heap hq hff hev
  have hi := r.lt
  have hH1 : (st (i + 1)).heap = H' := by rw [hs', put_heap]
  have hstep := tr.step hi
  have hsz : (st i).heap.size ≤ H'.size := by rw [← hH1]; exact hstep.2.2.2.2.2.2
  -- the places of the heap
  have hWh : Bound (Bm ms) ops.size (Wh ft) i := tr.boundOf hi fun k hk => by
    have hk' : ft k = .mut := hk
    rw [hk']
    rcases hf with h | h <;> rw [h] <;> exact ⟨rfl, rfl⟩
  have hJi : Jw ops.size (Wh ft) L i := r.J hWh
  have hbW : ∀ j, j < ops.size → Wh ft j → Bound (Bm ms) ops.size (Wh ft) j := fun j hj hw => tr.boundOf hj fun k hk => by
    have hk' : ft k = .mut := hk
    have hw' : ft j = .mut := hw
    rw [hk', hw']; exact ⟨rfl, rfl⟩
  obtain ⟨e, hJe, htop⟩ := J_top r.closed hbW
  have hie : i ≤ e := htop i hJi
  have hHe := inv.heap e hJe htop
  have hGie : Grown (st i).heap (st e).heap := tr.grown hie hJe.1 (J_path hJi hJe)
  -- the map below
  let H := (st i).heap
  have hszH : H.size ≤ H'.size := hsz
  let mi := Abs.below m H.size
  have hmi : ∀ {id : Nat} {x : Ent}, mi id = some x → id < H.size ∧ m id = some x := fun {id x} h => by
    have h' : (if id < H.size then m id else none) = some x := h
    split at h'
    · exact ⟨by assumption, h'⟩
    · cases h'
  have hmi2 : ∀ {id : Nat}, id < H.size → mi id = m id := fun {id} h => by
    show (if id < H.size then m id else none) = m id
    rw [if_pos h]
  have hHi : HRel mi H w := by
    refine ⟨fun id x hx => (hmi hx).1, fun id x hx => ?_, fun p q x y hx hy hxy => ?_⟩
    · obtain ⟨h1, h2⟩ := hmi hx
      obtain ⟨Cc, t, f, k1, k2, k3, k4, k5⟩ := hHe.blk id x h2
      rw [hGie.1.2 id h1] at k2 k4 k5
      refine ⟨Cc, t, f, k1, k2, k3, k4, fun j c hc => ?_⟩
      obtain ⟨g1, cx, g2, g3⟩ := k5 j c hc
      exact ⟨g1, cx, g2, Cl.down g3 (inv.clh i hJi id x h2 h1 c (List.mem_of_getElem? hc))⟩
    · obtain ⟨h1, h2⟩ := hmi hx
      obtain ⟨h3, h4⟩ := hmi hy
      have := hHe.alias p q x y h2 h4 hxy
      rw [hGie.1.2 p h1, hGie.1.2 q h3] at this
      exact this
  let envi : Nat → Value := fun t => if t ∈ looks ops.toList o ∧ isLoc ((st i).env t) = false then (st i).env t else bot
  let u : St := ⟨envi, (st i).loc, (st i).gen, H, (st i).nt⟩
  have hu := hcong u rfl rfl (fun t ht hl => by show (if _ then _ else _) = _; rw [if_pos ⟨ht, hl⟩])
  have hnt : (st i).nt = (st 0).nt := (tr.mono (Nat.zero_le i) (Nat.le_of_lt hi)).2.2
  have hsr : SR mi (fun _ => none) u a w := by
    refine ⟨hHi, ⟨fun _ _ h => (by cases h), fun _ _ h => (by cases h), fun _ _ _ h => (by cases h), fun _ _ _ _ h => (by cases h)⟩, fun t => ?_, ?_, inv.df⟩
    · show VL mi _ (if _ then _ else _) _
      split
      · rename_i hc
        obtain ⟨g1, g2⟩ := inv.env t i (r.J (r.tmps t hc.1))
        exact .inr (.inr (Cl.down (g1.v hc.2) g2))
      · exact .inr (.inl rfl)
    · rw [inv.nt]; exact hnt.symm
  refine evOp_put hC hu hsr fun m' β' cv w' hsr' hg' => ?_
  have hsrh : HRel m' H' w' := by have := hsr'.h; rw [put_heap] at this; exact this
  have hβ' : ∀ l b, β' l = some b → False := fun l b hb => by
    have h1 := hsr'.l.dom l b hb
    rw [put_gen] at h1
    have h2 := hg'.fr.lkeep l h1
    rw [hb] at h2
    cases h2
  have hlow : ∀ id, id < H.size → m' id = m id := fun id h => (hg'.fr.keep id h).trans (hmi2 h)
  let m2 : Map := fun id => if H.size ≤ id ∧ id < H'.size then m' id else m id
  have m2new : ∀ {id : Nat}, H.size ≤ id → id < H'.size → m2 id = m' id := fun h1 h2 => if_pos ⟨h1, h2⟩
  have m2old : ∀ {id : Nat}, ¬ (H.size ≤ id ∧ id < H'.size) → m2 id = m id := fun h => if_neg h
  have m2low : ∀ {id : Nat}, id < H'.size → m2 id = m' id := fun {id} h => by
    by_cases h1 : H.size ≤ id
    · exact m2new h1 h
    · rw [m2old (by omega), hlow id (by omega)]
  -- what has been made by others
  have born : ∀ {id : Nat} {x : Ent}, m id = some x → H.size ≤ id → ∃ k, i < k ∧ k < ops.size ∧ L k ∧ ft k = .ext ∧ ft i = .ext ∧ (st k).heap.size ≤ id ∧ id < (st (k + 1)).heap.size := fun {id x} hx hge => by
    rcases inv.domH id x hx with h | ⟨k, hk1, hk2, hk3, hk4, hk5⟩
    · have := (tr.mono (Nat.zero_le i) (Nat.le_of_lt hi)).1
      exact absurd h (by have : (st 0).heap.size ≤ H.size := this; omega)
    · have hki : i < k := by
        rcases Nat.lt_trichotomy k i with h | h | h
        · have := (tr.mono (show k + 1 ≤ i from h) (Nat.le_of_lt hi)).1
          have : (st (k + 1)).heap.size ≤ H.size := this
          omega
        · subst h; exact absurd hk1 r.new
        · exact h
      have hcomp : ft k = .ext ∧ ft i = .ext := by
        rcases tr.cf i k hki hk2 with h | h
        · rcases hf with h1 | h1 <;> rcases hk3 with h2 | h2 <;> rw [h1, h2] at h <;> first | exact ⟨h2, h1⟩ | cases h
        · exact absurd (r.closed k hk1 i h) r.new
      exact ⟨k, hki, hk2, hk1, hcomp.1, hcomp.2, hk4, hk5⟩
  have high : ∀ {id : Nat} {x : Ent}, m id = some x → H.size ≤ id → H'.size ≤ id := fun {id x} hx hge => by
    obtain ⟨k, h1, h2, _, _, _, h4, _⟩ := born hx hge
    have := (tr.mono (show i + 1 ≤ k from h1) (Nat.le_of_lt h2)).1
    rw [hH1] at this
    omega
  have le1 : Le m m2 := fun id x hx => by
    by_cases h : H.size ≤ id ∧ id < H'.size
    · exact absurd (high hx h.1) (by omega)
    · rw [m2old h]; exact hx
  have le2 : Le m' m2 := fun id x hx => by rw [m2low (hsrh.dom id x hx)]; exact hx
  have m2dom : ∀ {id : Nat} {x : Ent}, m2 id = some x → (id < H'.size ∧ m' id = some x) ∨ (H'.size ≤ id ∧ m id = some x) := fun {id x} hx => by
    by_cases h : id < H'.size
    · rw [m2low h] at hx; exact .inl ⟨h, hx⟩
    · rw [m2old (by omega)] at hx; exact .inr ⟨by omega, hx⟩
  have hvd : ∀ d, o.dst = some d → d < (st i).nt → VL m2 β v cv ∧ Cl (st (i + 1)).heap.size v := fun d hd hlt => by
    have := hsr'.env d
    rw [hd] at this
    simp only [St.put, Act.put, getD_set] at this
    have hlt2 : d < a.tmps.size := by rw [inv.nt, ← hnt]; exact hlt
    have hlt3 : d < u.nt := hlt
    simp only [hlt2, hlt3, and_self, if_true] at this
    rcases this with ⟨l, off, b, _, h2, _⟩ | rfl | h
    · exact absurd h2 fun h => hβ' _ _ h
    · exact ⟨.inr (.inl rfl), .loc _ rfl⟩
    · exact ⟨.inr (.inr (h.mono le2)), by rw [hH1]; exact V.cl hsrh.dom h⟩
  have blt : ∀ {l b : Nat}, β l = some b → b < w.heap.size := fun {l b} hb => by
    obtain ⟨j, hj, _⟩ := J_top (W := Wl ft l) r.closed fun j hj hw => tr.boundOf hj fun k hk => by
      have hk' : ft k = .locW l := hk
      have hw' : ft j = .locW l := hw
      rw [hk', hw']
      simp [compat]
    obtain ⟨⟨Cc, t, f, k1, _⟩, _⟩ := inv.loc l b hb j hj
    exact (Array.getElem?_eq_some_iff.1 k1).1
  have nWl : ∀ l, ¬ Wl ft l i := fun l h => by
    have h' : ft i = .locW l := h
    rcases hf with h1 | h1 <;> rw [h1] at h' <;> cases h'
  -- the roots of what others have made
  have rootH : ∀ {id : Nat} {x : Ent}, m id = some x → H.size ≤ id → H'.size ≤ ((st e).heap.blk id).root := fun {id x} hx hge => by
    obtain ⟨k, h1, h2, h3, h4, h5, h6, h7⟩ := born hx hge
    have hg := (tr.step h2).2.2.2.2.2.1 (by rw [h4]; intro h; cases h)
    have hke : k + 1 ≤ e := by
      rcases Nat.lt_or_ge k e with h | h
      · exact h
      · have h8 := (tr.mono h (Nat.le_of_lt h2)).1
        have h9 := hHe.dom id x hx
        omega
    have hg2 : Grown (st (k + 1)).heap (st e).heap := tr.grown hke hJe.1 fun q hq1 hq2 hq3 => by
      have hqn : q < ops.size := Nat.lt_of_lt_of_le hq2 hJe.1
      have hLq := (hJe.2 q hqn hq3).1 hq2
      have hq3' : ft q = .mut := hq3
      rcases tr.cf i q (by omega) hqn with h | h
      · rw [h5, hq3'] at h; cases h
      · exact r.new (r.closed q hLq i h)
    rw [hg2.1.2 id h7]
    have h8 := hg.2 id h6 h7
    have h9 := (tr.mono (show i + 1 ≤ k from h1) (Nat.le_of_lt h2)).1
    rw [hH1] at h9
    omega
  have frameOld : ∀ {id : Nat} {x : Ent}, m id = some x → H'.size ≤ id → w'.heap[x.b]? = w.heap[x.b]? := fun {id x} hx hge => by
    refine hg'.fr.frame x.b (hHe.blk id x hx).lt (fun p y hy hb => ?_) (fun l h => by cases h)
    obtain ⟨h1, h2⟩ := hmi hy
    have h3 := (hHe.alias p id y x h2 hx hb).1
    have h4 := (st e).heap.rle p
    have h5 := rootH hx (by omega)
    omega
  have cross : ∀ {p q : Nat} {x y : Ent}, p < H'.size → m' p = some x → H'.size ≤ q → m q = some y → x.b = y.b → False := fun {p q x y} hp hx hq' hy hb => by
    rcases hg'.fr.img p x hx with ⟨z, f, hz, hzb⟩ | hge
    · obtain ⟨h1, h2⟩ := hmi hz
      have h3 := (hHe.alias z q f y h2 hy (hzb.trans hb)).1
      have h4 := (st e).heap.rle z
      have h5 := rootH hy (by omega)
      omega
    · have := (hHe.blk q y hy).lt
      rw [hb] at hge
      omega
  apply hK m2 β
  refine { nt := ?nt, df := ?df, env := ?env, heap := ?heap, clh := ?clh, loc := ?loc, inj := inv.inj, sep := ?sep, domH := ?domH, domL := ?domL, le := inv.le.trans le1, lel := inv.lel, fr := ?fr }
  case nt => rw [(act_put a o.dst cv).1]; exact inv.nt
  case df => rw [(act_put a o.dst cv).2]; exact inv.df
  case env => exact env_next tr r inv le1 (fun _ _ h => h) hs' (fun _ => rfl) rfl hvd
  case heap =>
    intro e' hJe' htop'
    have key : i + 1 ≤ e' ∧ Grown H' (st e').heap ∧ ∀ {id : Nat} {x : Ent}, m id = some x → H'.size ≤ id → e' = e := by
      rcases hf with hfe | hfm
      · have hnw : ¬ Wh ft i := fun h => by have h' : ft i = .mut := h; rw [hfe] at h'; cases h'
        have h1 := (J_addN hnw).1 hJe'
        have h2 := Nat.le_antisymm (htop e' h1) (htop' e ((J_addN hnw).2 hJe))
        subst h2
        have h3 := J_next hJi hi hnw
        refine ⟨htop _ h3, ?_, fun _ _ => rfl⟩
        rw [← hH1]
        exact tr.grown (htop _ h3) hJe.1 (J_path h3 hJe)
      · obtain ⟨h1, h2⟩ := J_addW r.closed hi hfm r.new hWh hJe'
        refine ⟨h1, ?_, fun {id x} hx hge => ?_⟩
        · rw [← hH1]
          exact tr.grown h1 hJe'.1 h2
        · obtain ⟨k, _, _, _, _, h5, _⟩ := born hx (by omega)
          rw [hfm] at h5; cases h5
    obtain ⟨k1, k2, k3⟩ := key
    refine ⟨fun id x hx => ?_, fun id x hx => ?_, fun p q x y hx hy hxy => ?_⟩
    · rcases m2dom hx with ⟨h1, h2⟩ | ⟨h1, h2⟩
      · exact Nat.lt_of_lt_of_le h1 k2.1.1
      · rw [k3 h2 h1]; exact hHe.dom id x h2
    · rcases m2dom hx with ⟨h1, h2⟩ | ⟨h1, h2⟩
      · rw [k2.1.2 id h1]; exact (hsrh.blk id x h2).mono le2
      · rw [k3 h2 h1]; exact ((hHe.blk id x h2).mono le1).world (frameOld h2 h1)
    · rcases m2dom hx with ⟨h1, h2⟩ | ⟨h1, h2⟩ <;> rcases m2dom hy with ⟨h3, h4⟩ | ⟨h3, h4⟩
      · rw [k2.1.2 p h1, k2.1.2 q h3]; exact hsrh.alias p q x y h2 h4 hxy
      · exact (cross h1 h2 h3 h4 hxy).elim
      · exact (cross h3 h4 h1 h2 hxy.symm).elim
      · rw [k3 h2 h1]; exact hHe.alias p q x y h2 h4 hxy
  case clh =>
    intro j hj id x hx hlt c hc
    have fresh : i + 1 ≤ j → Grown H' (st j).heap → id < H'.size → m' id = some x → Cl (st j).heap.size c := fun h1 h2 h3 h4 => by
      rw [h2.1.2 id h3] at hc
      obtain ⟨Cc, t, f, _, _, _, _, g5⟩ := hsrh.blk id x h4
      obtain ⟨q, hq'⟩ := List.getElem?_of_mem hc
      obtain ⟨_, cx, _, g7⟩ := g5 q c hq'
      exact (V.cl hsrh.dom g7).mono h2.1.1
    rcases hf with hfe | hfm
    · have hnw : ¬ Wh ft i := fun h => by have h' : ft i = .mut := h; rw [hfe] at h'; cases h'
      have hj' := (J_addN hnw).1 hj
      rcases m2dom hx with ⟨h1, h2⟩ | ⟨h1, h2⟩
      · by_cases hl : id < H.size
        · exact inv.clh j hj' id x (by rw [← hlow id hl]; exact h2) hlt c hc
        · have hij : i + 1 ≤ j := by
            rcases Nat.lt_or_ge i j with h | h
            · exact h
            · have := (tr.mono h (Nat.le_of_lt hi)).1
              have : (st j).heap.size ≤ H.size := this
              omega
          refine fresh hij ?_ h1 h2
          rw [← hH1]
          exact tr.grown hij hj.1 (J_path (J_next hJi hi hnw) hj')
      · exact inv.clh j hj' id x h2 hlt c hc
    · obtain ⟨h1, h2⟩ := J_addW r.closed hi hfm r.new hWh hj
      rcases m2dom hx with ⟨h3, h4⟩ | ⟨h3, h4⟩
      · refine fresh h1 ?_ h3 h4
        rw [← hH1]
        exact tr.grown h1 hj.1 h2
      · obtain ⟨k, _, _, _, _, h5, _⟩ := born h4 (by omega)
        rw [hfm] at h5; cases h5
  case loc =>
    intro l b hb j hj
    obtain ⟨⟨Cc, t, f, k1, k2, k3, k4⟩, k5⟩ := inv.loc l b hb j ((J_addN (nWl l)).1 hj)
    refine ⟨⟨Cc, t, f, ?_, k2, k3, k4.mono le1⟩, k5⟩
    rw [hg'.fr.frame b (blt hb) (fun p y hy => inv.sep l b p y hb (hmi hy).2) (fun l h => by cases h)]
    exact k1
  case sep =>
    intro l b id x hb hx
    rcases m2dom hx with ⟨h1, h2⟩ | ⟨h1, h2⟩
    · rcases hg'.fr.img id x h2 with ⟨z, f, hz, hzb⟩ | hge
      · rw [← hzb]; exact inv.sep l b z f hb (hmi hz).2
      · have := blt hb; omega
    · exact inv.sep l b id x hb h2
  case domH =>
    intro id x hx
    have old : m id = some x → id < (st 0).heap.size ∨ ∃ k, with_ L i k ∧ k < ops.size ∧ (ft k = .ext ∨ ft k = .mut) ∧ (st k).heap.size ≤ id ∧ id < (st (k + 1)).heap.size := fun h => by
      rcases inv.domH id x h with h | ⟨k, h1, h2⟩
      · exact .inl h
      · exact .inr ⟨k, .inl h1, h2⟩
    rcases m2dom hx with ⟨h1, h2⟩ | ⟨h1, h2⟩
    · by_cases hl : id < H.size
      · exact old (by rw [← hlow id hl]; exact h2)
      · exact .inr ⟨i, .inr rfl, hi, hf, Nat.le_of_not_lt hl, by rw [hH1]; exact h1⟩
    · exact old h2
  case domL =>
    intro l b hb
    rcases inv.domL l b hb with h | ⟨k, h1, h2⟩
    · exact .inl h
    · exact .inr ⟨k, .inl h1, h2⟩
  case fr =>
    have h0 : (st 0).heap.size ≤ H.size := (tr.mono (Nat.zero_le i) (Nat.le_of_lt hi)).1
    refine ⟨hg'.fr.os.trans inv.fr.os, hg'.fr.tape.trans inv.fr.tape, hg'.fr.output.trans inv.fr.output, Nat.le_trans inv.fr.size hg'.fr.size, fun id hid => ?_, inv.fr.lkeep, fun id x hx => ?_, inv.fr.limg, fun b hb h1 h2 => ?_, fun b Cc t f hb => ?_, fun id x hx => ?_, fun b C C' t t' f f' hC hC' o ho hl => ?_⟩
    case refine_6 =>
      obtain ⟨C1, g1, g2⟩ := inv.fr.shape b C t f hC
      have hb : b < _ := (Array.getElem?_eq_some_iff.1 hC).1
      rw [hg'.fr.rest b C1 C' t t' f f' g1 hC' o (fun p y hy hyb => ?_) (fun l h => by cases h)]
      · exact inv.fr.rest b C C1 t t f f hC g1 o ho hl
      · rcases inv.fr.img2 p y (hmi hy).2 with ⟨z, q, hz, hzb, s1, s2⟩ | hge
        · rcases ho z q hz (hzb.trans hyb) with h3 | h3
          · exact .inl (by omega)
          · exact .inr (by omega)
        · rw [hyb] at hge; omega
    case refine_5 =>
      rcases m2dom hx with ⟨h1, h2⟩ | ⟨h1, h2⟩
      · rcases hg'.fr.img2 id x h2 with ⟨z, f, hz, hzb, s1, s2⟩ | hge
        · rcases inv.fr.img2 z f (hmi hz).2 with ⟨z', f', hz', hzb', s1', s2'⟩ | hge
          · exact .inl ⟨z', f', hz', hzb'.trans hzb, Nat.le_trans s1' s1, Nat.le_trans s2 s2'⟩
          · exact .inr (by rw [← hzb]; exact hge)
        · exact .inr (Nat.le_trans inv.fr.size hge)
      · exact inv.fr.img2 id x h2
    · rw [m2old (by omega)]; exact inv.fr.keep id hid
    · rcases m2dom hx with ⟨h1, h2⟩ | ⟨h1, h2⟩
      · rcases hg'.fr.img id x h2 with ⟨z, f, hz, hzb⟩ | hge
        · rw [← hzb]; exact inv.fr.img z f (hmi hz).2
        · exact .inr (Nat.le_trans inv.fr.size hge)
      · exact inv.fr.img id x h2
    · rw [hg'.fr.frame b (Nat.lt_of_lt_of_le hb inv.fr.size) (fun p y hy hyb => ?_) (fun l h => by cases h)]
      · exact inv.fr.frame b hb h1 h2
      · rcases inv.fr.img p y (hmi hy).2 with ⟨z, f, hz, hzb⟩ | hge
        · exact h1 z f hz (hzb.trans hyb)
        · rw [hyb] at hge; omega
    · obtain ⟨C1, g1, g2⟩ := inv.fr.shape b Cc t f hb
      obtain ⟨C2, g3, g4⟩ := hg'.fr.shape b C1 t f g1
      exact ⟨C2, g3, g4.trans g2⟩

/-- The variables of the frame as they are now, and the heap as it is now. -/
theorem top_rel (tr : Trace P C ls ops ms st ft) (hc : ∀ k, L k → ∀ j, Bm ms j k → L j) (inv : Inv ops st ft m0 β0 w0 L m β a w) :
    ∃ e, Jw ops.size (Wh ft) L e ∧ (∀ j, Jw ops.size (Wh ft) L j → j ≤ e) ∧ HRel m (st e).heap w ∧
      ∃ cur : Nat → List Value, LRel m β cur (st ops.size).gen w ∧ ∀ l b, β l = some b → ∀ j, Jw ops.size (Wl ft l) L j → cur l = (st j).loc l := by
  have hbW : ∀ j, j < ops.size → Wh ft j → Bound (Bm ms) ops.size (Wh ft) j := fun j hj hw => tr.boundOf hj fun k hk => by
    have hk' : ft k = .mut := hk
    have hw' : ft j = .mut := hw
    rw [hk', hw']; exact ⟨rfl, rfl⟩
  obtain ⟨e, hJe, htop⟩ := J_top hc hbW
  have hbl : ∀ l, ∃ j, Jw ops.size (Wl ft l) L j := fun l => by
    obtain ⟨j, hj, _⟩ := J_top (W := Wl ft l) hc fun j hj hw => tr.boundOf hj fun k hk => by
      have hk' : ft k = .locW l := hk
      have hw' : ft j = .locW l := hw
      rw [hk', hw']
      simp [compat]
    exact ⟨j, hj⟩
  have hcur : ∀ l j, Jw ops.size (Wl ft l) L j → (st (Classical.choose (hbl l))).loc l = (st j).loc l := fun l j hj => by
    have hq := Classical.choose_spec (hbl l)
    rcases Nat.le_total (Classical.choose (hbl l)) j with h | h
    · exact (tr.loc_path h hj.1 (J_path hq hj)).symm
    · exact tr.loc_path h hq.1 (J_path hj hq)
  refine ⟨e, hJe, htop, inv.heap e hJe htop, fun l => (st (Classical.choose (hbl l))).loc l, ⟨fun l b hb => ?_, fun l b hb => ?_, inv.inj, inv.sep⟩, fun l b _ j hj => hcur l j hj⟩
  · rcases inv.domL l b hb with h | ⟨k, _, hk, _, _, h⟩
    · exact Nat.lt_of_lt_of_le h (tr.mono (Nat.zero_le _) (Nat.le_refl _)).2.1
    · exact Nat.lt_of_lt_of_le h (tr.mono (show k + 1 ≤ ops.size from hk) (Nat.le_refl _)).2.1
  · exact (inv.loc l b hb _ (Classical.choose_spec (hbl l))).1

/-- An operation that leaves the heap alone and makes no variable of the frame. -/
theorem step_frame (tr : Trace P C ls ops ms st ft) (hC : Sound P C) (r : Ready ops (Bm ms) L i o) (inv : Inv ops st ft m0 β0 w0 L m β a w) (hne : ft i ≠ .ext) (hnm : ft i ≠ .mut)
    {v : Value} {nl : (Nat → List Value) → Nat → List Value} (hs : st (i + 1) = { st i with loc := nl (st i).loc }.put o.dst v)
    (hnl : ∀ l, ft i ≠ .locW l → ∀ f, nl f l = f l) (hnl2 : ∀ l, ft i = .locW l → ∀ f g : Nat → List Value, f l = g l → nl f l = nl g l)
    (hcong : ∀ u : St, u.nt = (st i).nt → (st i).gen ≤ u.gen → (∀ l, (ft i = .locR l ∨ ft i = .locW l) → u.loc l = (st i).loc l) → (∀ t ∈ looks ops.toList o, u.env t = (st i).env t) →
      evOp P C ls ops o u = some ({ u with loc := nl u.loc }.put o.dst v))
    (hused : ∀ l, (ft i = .locR l ∨ ft i = .locW l) → ∃ t ∈ looks ops.toList o, ∃ off, (st i).env t = lptr l off)
    (hcl : (∀ t ∈ looks ops.toList o, Cl (st i).heap.size ((st i).env t)) → (∀ l, (ft i = .locR l ∨ ft i = .locW l) → ∀ c ∈ (st i).loc l, Cl (st i).heap.size c) →
      Cl (st i).heap.size v ∧ ∀ l, ft i = .locW l → ∀ c ∈ (st (i + 1)).loc l, Cl (st i).heap.size c)
    {K : Act → World → Prop} {Q : Exit → Act → World → Prop} (hK : ∀ m' β' a' w', Inv ops st ft m0 β0 w0 (with_ L i) m' β' a' w' → K a' w') :
    if Region.wanted o (yielded ops a.tmps) then o.wp P a w K Q else K (a.put o.dst undef) w := by
  have hi := r.lt
  have hstep := tr.step hi
  have hH : (st (i + 1)).heap = (st i).heap := hstep.2.2.1 hne hnm
  obtain ⟨e, hJe, htop, hHe, cur, hL, hcur⟩ := top_rel tr r.closed inv
  have hnt : (st i).nt = (st 0).nt := (tr.mono (Nat.zero_le i) (Nat.le_of_lt hi)).2.2
  have hbl : ∀ l, (ft i = .locR l ∨ ft i = .locW l) → Bound (Bm ms) ops.size (Wl ft l) i := fun l h => tr.boundOf hi fun k hk => by
    have hk' : ft k = .locW l := hk
    rw [hk']
    rcases h with h | h <;> rw [h] <;> simp [compat]
  -- what is looked at
  have hlook : ∀ t ∈ looks ops.toList o, VL m β ((st i).env t) (a.tmps.getD t undef) ∧ Cl (st i).heap.size ((st i).env t) := fun t ht => inv.env t i (r.J (r.tmps t ht))
  have hβl : ∀ l, (ft i = .locR l ∨ ft i = .locW l) → ∃ b, β l = some b := fun l h => by
    obtain ⟨t, ht, off, hv⟩ := hused l h
    have := (hlook t ht).1
    rw [hv] at this
    rcases this with ⟨l', off', b, h1, h2, _⟩ | h1 | h1
    · cases h1; exact ⟨b, h2⟩
    · cases h1
    · cases h1
  have hcuri : ∀ l, (ft i = .locR l ∨ ft i = .locW l) → cur l = (st i).loc l := fun l h => by
    obtain ⟨b, hb⟩ := hβl l h
    exact hcur l b hb i (r.J (hbl l h))
  obtain ⟨hcv, hcc⟩ := hcl (fun t ht => (hlook t ht).2) fun l h c hc => by
    obtain ⟨b, hb⟩ := hβl l h
    exact (inv.loc l b hb i (r.J (hbl l h))).2 c hc
  let envi : Nat → Value := fun t => if t ∈ looks ops.toList o then (st i).env t else bot
  let u : St := ⟨envi, cur, (st ops.size).gen, (st e).heap, (st i).nt⟩
  have hu := hcong u rfl (tr.mono (Nat.le_of_lt hi) (Nat.le_refl _)).2.1 hcuri (fun t ht => by show (if _ then _ else _) = _; rw [if_pos ht])
  have hsr : SR m β u a w := by
    refine ⟨hHe, hL, fun t => ?_, ?_, inv.df⟩
    · show VL m β (if _ then _ else _) _
      split
      · rename_i ht; exact (hlook t ht).1
      · exact .inr (.inl rfl)
    · rw [inv.nt]; exact hnt.symm
  refine evOp_put hC hu hsr fun m' β' cv w' hsr' hg' => ?_
  have hm' : m' = m := by
    funext id
    by_cases h : id < (st e).heap.size
    · exact hg'.fr.keep id h
    · have h1 : m' id = none := by
        cases hq : m' id with
        | none => rfl
        | some x => have := hsr'.h.dom id x hq; rw [put_heap] at this; exact absurd this h
      have h2 : m id = none := by
        cases hq : m id with
        | none => rfl
        | some x => exact absurd (hHe.dom id x hq) h
      rw [h1, h2]
  have hβ' : β' = β := by
    funext l
    by_cases h : l < (st ops.size).gen
    · exact hg'.fr.lkeep l h
    · have h1 : β' l = none := by
        cases hq : β' l with
        | none => rfl
        | some x => have := hsr'.l.dom l x hq; rw [put_gen] at this; exact absurd this h
      have h2 : β l = none := by
        cases hq : β l with
        | none => rfl
        | some x => exact absurd (hL.dom l x hq) h
      rw [h1, h2]
  subst hm' hβ'
  have hvd : ∀ d, o.dst = some d → d < (st i).nt → VL m' β' v cv ∧ Cl (st (i + 1)).heap.size v := fun d hd hlt => by
    have := hsr'.env d
    rw [hd] at this
    simp only [St.put, Act.put, getD_set] at this
    have hlt2 : d < a.tmps.size := by rw [inv.nt, ← hnt]; exact hlt
    have hlt3 : d < u.nt := hlt
    simp only [hlt2, hlt3, and_self, if_true] at this
    exact ⟨this, by rw [hH]; exact hcv⟩
  have hnWh : ¬ Wh ft i := hnm
  apply hK m' β'
  refine { nt := ?nt, df := ?df, env := ?env, heap := ?heap, clh := ?clh, loc := ?loc, inj := inv.inj, sep := inv.sep, domH := ?domH, domL := ?domL, le := inv.le, lel := inv.lel, fr := ?fr }
  case nt => rw [(act_put a o.dst cv).1]; exact inv.nt
  case df => rw [(act_put a o.dst cv).2]; exact inv.df
  case env => exact env_next tr r inv (Le.refl _) (fun _ _ h => h) hs (fun _ => rfl) rfl hvd
  case heap =>
    intro e' hJe' htop'
    have h1 := (J_addN hnWh).1 hJe'
    have h2 := Nat.le_antisymm (htop e' h1) (htop' e ((J_addN hnWh).2 hJe))
    subst h2
    have := hsr'.h
    rw [put_heap] at this
    exact this
  case clh => exact fun j hj => inv.clh j ((J_addN hnWh).1 hj)
  case loc =>
    intro l b hb j hj
    have hnew := hsr'.l.blk l b hb
    rw [put_loc] at hnew
    by_cases hw : ft i = .locW l
    · obtain ⟨h1, h2⟩ := J_addW r.closed hi hw r.new (hbl l (.inr hw)) hj
      have e1 : (st j).loc l = (st (i + 1)).loc l := tr.loc_path h1 hj.1 h2
      have e2 : (st (i + 1)).loc l = nl cur l := by
        rw [hs, put_loc]
        exact hnl2 l hw _ _ (hcuri l (.inr hw)).symm
      rw [e1]
      refine ⟨by rw [e2]; exact hnew, fun c hc => (hcc l hw c hc).mono ?_⟩
      rw [← hH]
      exact (tr.mono h1 hj.1).1
    · have hj' := (J_addN (W := Wl ft l) hw).1 hj
      have e2 : (st j).loc l = nl cur l := by rw [hnl l hw, hcur l b hb j hj']
      exact ⟨by rw [e2]; exact hnew, (inv.loc l b hb j hj').2⟩
  case domH =>
    intro id x hx
    rcases inv.domH id x hx with h | ⟨k, h1, h2⟩
    · exact .inl h
    · exact .inr ⟨k, .inl h1, h2⟩
  case domL =>
    intro l b hb
    rcases inv.domL l b hb with h | ⟨k, h1, h2⟩
    · exact .inl h
    · exact .inr ⟨k, .inl h1, h2⟩
  case fr =>
    refine inv.fr.trans hg'.fr (tr.mono (Nat.zero_le e) hJe.1).1 (tr.mono (Nat.zero_le _) (Nat.le_refl _)).2.1

/-- An operation that makes a variable of the frame. -/
theorem step_birth (tr : Trace P C ls ops ms st ft) (hC : Sound P C) (r : Ready ops (Bm ms) L i o) (inv : Inv ops st ft m0 β0 w0 L m β a w) (hf : ft i = .locW (st i).gen)
    (ho : (∃ t, o.op = .alloc t) ∨ ∃ t x, o.op = .box t x) (hl : o.dst.any (ls.contains ·) = true)
    {K : Act → World → Prop} {Q : Exit → Act → World → Prop} (hK : ∀ m' β' a' w', Inv ops st ft m0 β0 w0 (with_ L i) m' β' a' w' → K a' w') :
    if Region.wanted o (yielded ops a.tmps) then o.wp P a w K Q else K (a.put o.dst undef) w := by
  obtain ⟨hev, _⟩ := tr.op i o r.op
  obtain ⟨c, g, v, hg1, hg2, hs, hcong, hcv, hcc⟩ := evOp_birth ho hl hev
  have hi := r.lt
  have hstep := tr.step hi
  have hH : (st (i + 1)).heap = (st i).heap := hstep.2.2.1 (by rw [hf]; intro h; cases h) (by rw [hf]; intro h; cases h)
  have hG : (st (i + 1)).gen = g := by rw [hs, put_gen]
  obtain ⟨e, hJe, htop, hHe, cur, hL, hcur⟩ := top_rel tr r.closed inv
  have hnt : (st i).nt = (st 0).nt := (tr.mono (Nat.zero_le i) (Nat.le_of_lt hi)).2.2
  have hbl : Bound (Bm ms) ops.size (Wl ft (st i).gen) i := tr.boundOf hi fun k hk => by
    have hk' : ft k = .locW (st i).gen := hk
    rw [hk', hf]; simp [compat]
  have hlook : ∀ t ∈ looks ops.toList o, VL m β ((st i).env t) (a.tmps.getD t undef) ∧ Cl (st i).heap.size ((st i).env t) := fun t ht => inv.env t i (r.J (r.tmps t ht))
  have hβ0 : β (st i).gen = none := by
    cases hb : β (st i).gen with
    | none => rfl
    | some b =>
      rcases inv.domL _ b hb with h | ⟨k, h1, h2, h3, h4, h5⟩
      · have := (tr.mono (Nat.zero_le i) (Nat.le_of_lt hi)).2.1
        omega
      · rcases Nat.lt_trichotomy k i with h | h | h
        · have := (tr.mono (show k + 1 ≤ i from h) (Nat.le_of_lt hi)).2.1
          omega
        · subst h; exact absurd h1 r.new
        · exact absurd (r.closed k h1 i ((hbl k h2 h3).2 h)) r.new
  have blt : ∀ {l b : Nat}, β l = some b → b < w.heap.size := fun hb => hL.lt hb
  let envi : Nat → Value := fun t => if t ∈ looks ops.toList o ∧ isLoc ((st i).env t) = false then (st i).env t else bot
  let u : St := ⟨envi, (st i).loc, (st i).gen, (st e).heap, (st i).nt⟩
  have hu := hcong u rfl rfl rfl (fun t ht hl => by show (if _ then _ else _) = _; rw [if_pos ⟨ht, hl⟩])
  have hsr : SR m (fun _ => none) u a w := by
    refine ⟨hHe, ⟨fun _ _ h => (by cases h), fun _ _ h => (by cases h), fun _ _ _ h => (by cases h), fun _ _ _ _ h => (by cases h)⟩, fun t => ?_, ?_, inv.df⟩
    · show VL m _ (if _ then _ else _) _
      split
      · rename_i hc; exact .inr (.inr ((hlook t hc.1).1.v hc.2))
      · exact .inr (.inl rfl)
    · rw [inv.nt]; exact hnt.symm
  refine evOp_put hC hu hsr fun m' β' cv w' hsr' hg' => ?_
  have hm' : m' = m := by
    funext id
    by_cases h : id < (st e).heap.size
    · exact hg'.fr.keep id h
    · have h1 : m' id = none := by
        cases hq : m' id with
        | none => rfl
        | some x => have := hsr'.h.dom id x hq; rw [put_heap] at this; exact absurd this h
      have h2 : m id = none := by
        cases hq : m id with
        | none => rfl
        | some x => exact absurd (hHe.dom id x hq) h
      rw [h1, h2]
  subst hm'
  have hβ' : ∀ {l b : Nat}, β' l = some b → l = (st i).gen ∧ g = (st i).gen + 1 := fun {l b} hb => by
    have h1 := hsr'.l.dom l b hb
    rw [put_gen] at h1
    have h1' : l < g := h1
    by_cases h : l < (st i).gen
    · have h2 := hg'.fr.lkeep l h
      rw [hb] at h2; cases h2
    · omega
  let β2 : LMap := fun l => if l = (st i).gen then β' l else β l
  have b2self : β2 (st i).gen = β' (st i).gen := if_pos rfl
  have b2ne : ∀ {l : Nat}, l ≠ (st i).gen → β2 l = β l := fun h => if_neg h
  have lel1 : LeL β β2 := fun l b hb => by
    by_cases h : l = (st i).gen
    · rw [h, hβ0] at hb; cases hb
    · rw [b2ne h]; exact hb
  have lel2 : LeL β' β2 := fun l b hb => by
    obtain ⟨h, _⟩ := hβ' hb
    rw [h] at hb ⊢
    rw [b2self]; exact hb
  have hvd : ∀ d, o.dst = some d → d < (st i).nt → VL m' β2 v cv ∧ Cl (st (i + 1)).heap.size v := fun d hd hlt => by
    have := hsr'.env d
    rw [hd] at this
    simp only [St.put, Act.put, getD_set] at this
    have hlt2 : d < a.tmps.size := by rw [inv.nt, ← hnt]; exact hlt
    have hlt3 : d < u.nt := hlt
    simp only [hlt2, hlt3, and_self, if_true] at this
    exact ⟨this.mono (Le.refl _) lel2, hcv _⟩
  have hnWh : ¬ Wh ft i := fun h => by have h' : ft i = .mut := h; rw [hf] at h'; cases h'
  have hold : ∀ {l b : Nat}, β l = some b → w'.heap[b]? = w.heap[b]? := fun {l b} hb => hg'.fr.frame b (blt hb) (fun p y hy => inv.sep l b p y hb hy) (fun l h => by cases h)
  have hnewb : ∀ {b : Nat}, β' (st i).gen = some b → w.heap.size ≤ b := fun {b} hb => by
    rcases hg'.fr.limg _ b hb with h | h
    · cases h
    · exact h
  apply hK m' β2
  refine { nt := ?nt, df := ?df, env := ?env, heap := ?heap, clh := ?clh, loc := ?loc, inj := ?inj, sep := ?sep, domH := ?domH, domL := ?domL, le := inv.le, lel := fun l b hb => lel1 l b (inv.lel l b hb), fr := ?fr }
  case nt => rw [(act_put a o.dst cv).1]; exact inv.nt
  case df => rw [(act_put a o.dst cv).2]; exact inv.df
  case env => exact env_next tr r inv (Le.refl _) lel1 hs (fun _ => rfl) rfl hvd
  case heap =>
    intro e' hJe' htop'
    have h1 := (J_addN hnWh).1 hJe'
    have h2 := Nat.le_antisymm (htop e' h1) (htop' e ((J_addN hnWh).2 hJe))
    subst h2
    have := hsr'.h
    rw [put_heap] at this
    exact this
  case clh => exact fun j hj => inv.clh j ((J_addN hnWh).1 hj)
  case loc =>
    intro l b hb j hj
    by_cases h : l = (st i).gen
    · subst h
      rw [b2self] at hb
      have hnew := hsr'.l.blk _ b hb
      rw [put_loc] at hnew
      obtain ⟨h1, h2⟩ := J_addW (W := Wl ft (st i).gen) r.closed hi hf r.new hbl hj
      have e1 : (st j).loc (st i).gen = c := by
        rw [tr.loc_path h1 hj.1 h2, hs, put_loc]
        simp [updL]
      have e2 : (updL u.loc (st i).gen c) (st i).gen = c := by simp [updL]
      have e3 : ({ u with loc := updL u.loc (st i).gen c, gen := g } : St).loc (st i).gen = c := e2
      rw [e3] at hnew
      rw [e1]
      refine ⟨hnew, fun q hq => (hcc _ (hβ' hb).2 (fun t ht => (hlook t ht).2) q hq).mono ?_⟩
      rw [← hH]
      exact (tr.mono h1 hj.1).1
    · rw [b2ne h] at hb
      have hnw : ¬ Wl ft l i := fun hw => by
        have hw' : ft i = .locW l := hw
        rw [hf] at hw'
        cases hw'
        exact h rfl
      obtain ⟨⟨Cc, t, f, k1, k2⟩, k3⟩ := inv.loc l b hb j ((J_addN hnw).1 hj)
      exact ⟨⟨Cc, t, f, by rw [hold hb]; exact k1, k2⟩, k3⟩
  case inj =>
    intro l k b hb hk
    by_cases h1 : l = (st i).gen <;> by_cases h2 : k = (st i).gen
    · rw [h1, h2]
    · rw [h1, b2self] at hb
      rw [b2ne h2] at hk
      have := blt hk
      have := hnewb hb
      omega
    · rw [h2, b2self] at hk
      rw [b2ne h1] at hb
      have := blt hb
      have := hnewb hk
      omega
    · rw [b2ne h1] at hb
      rw [b2ne h2] at hk
      exact inv.inj l k b hb hk
  case sep =>
    intro l b id x hb hx
    by_cases h1 : l = (st i).gen
    · rw [h1, b2self] at hb
      exact hsr'.l.sep _ b id x hb hx
    · rw [b2ne h1] at hb
      exact inv.sep l b id x hb hx
  case domH =>
    intro id x hx
    rcases inv.domH id x hx with h | ⟨k, h1, h2⟩
    · exact .inl h
    · exact .inr ⟨k, .inl h1, h2⟩
  case domL =>
    intro l b hb
    by_cases h1 : l = (st i).gen
    · subst h1
      rw [b2self] at hb
      obtain ⟨_, h2⟩ := hβ' hb
      exact .inr ⟨i, .inr rfl, hi, hf, Nat.le_refl _, by rw [hG, h2]; exact Nat.lt_succ_self _⟩
    · rw [b2ne h1] at hb
      rcases inv.domL l b hb with h | ⟨k, h1, h2⟩
      · exact .inl h
      · exact .inr ⟨k, .inl h1, h2⟩
  case fr =>
    have hgen0 : (st 0).gen ≤ (st i).gen := (tr.mono (Nat.zero_le i) (Nat.le_of_lt hi)).2.1
    refine ⟨hg'.fr.os.trans inv.fr.os, hg'.fr.tape.trans inv.fr.tape, hg'.fr.output.trans inv.fr.output, Nat.le_trans inv.fr.size hg'.fr.size, inv.fr.keep, fun l hl => ?_, inv.fr.img, fun l b hb => ?_, fun b hb h1 h2 => ?_, fun b Cc t f hb => ?_, inv.fr.img2, fun b C C' t t' f f' hC hC' o ho hl => ?_⟩
    case refine_5 =>
      obtain ⟨C1, g1, g2⟩ := inv.fr.shape b C t f hC
      have hb : b < _ := (Array.getElem?_eq_some_iff.1 hC).1
      rw [hg'.fr.rest b C1 C' t t' f f' g1 hC' o (fun p y hy hyb => ?_) (fun l h => by cases h)]
      · exact inv.fr.rest b C C1 t t f f hC g1 o ho hl
      · rcases inv.fr.img2 p y hy with ⟨z, q, hz, hzb, s1, s2⟩ | hge
        · rcases ho z q hz (hzb.trans hyb) with h3 | h3
          · exact .inl (by omega)
          · exact .inr (by omega)
        · rw [hyb] at hge; omega
    · rw [b2ne (by omega)]; exact inv.fr.lkeep l hl
    · by_cases h1 : l = (st i).gen
      · rw [h1, b2self] at hb
        exact .inr (Nat.le_trans inv.fr.size (hnewb hb))
      · rw [b2ne h1] at hb
        exact inv.fr.limg l b hb
    · rw [hg'.fr.frame b (Nat.lt_of_lt_of_le hb inv.fr.size) (fun p y hy hyb => ?_) (fun l h => by cases h)]
      · exact inv.fr.frame b hb h1 h2
      · rcases inv.fr.img p y hy with ⟨z, f, hz, hzb⟩ | hge
        · exact h1 z f hz (hzb.trans hyb)
        · rw [hyb] at hge; omega
    · obtain ⟨C1, g1, g2⟩ := inv.fr.shape b Cc t f hb
      obtain ⟨C2, g3, g4⟩ := hg'.fr.shape b C1 t f g1
      exact ⟨C2, g3, g4.trans g2⟩

theorem loc_operand {s : St} {x : Operand} {l : Nat} (h : locOf (s.ev x) = some l) : ∃ t off, x = .tmp t ∧ s.env t = lptr l off := by
  obtain ⟨off, ho⟩ := locOf_some h
  cases x with
  | tmp t => exact ⟨t, off, rfl, ho⟩
  | const v =>
    have h1 : (if flatB v then v else bot) = lptr l off := ho
    split at h1
    · rename_i hf; rw [h1] at hf; cases hf
    · cases h1
  | global g => cases ho
  | func f => cases ho

/-- One operation, whichever it is. -/
theorem step_any (tr : Trace P C ls ops ms st ft) (hC : Sound P C) (r : Ready ops (Bm ms) L i o) (inv : Inv ops st ft m0 β0 w0 L m β a w)
    {K : Act → World → Prop} {Q : Exit → Act → World → Prop} (hK : ∀ m' β' a' w', Inv ops st ft m0 β0 w0 (with_ L i) m' β' a' w' → K a' w') :
    if Region.wanted o (yielded ops a.tmps) then o.wp P a w K Q else K (a.put o.dst undef) w := by
  obtain ⟨hev, hfoot⟩ := tr.op i o r.op
  rcases foot_cases hfoot with ⟨hf, hq⟩ | ⟨hq, hfm, hff⟩ | ⟨l, t, x, hf, ho, hl⟩ | ⟨l, t, x, y, hf, ho, hl⟩ | ⟨hf, ho, hl⟩
  · obtain ⟨v, h1, h2, h3⟩ := evOp_quiet hq hev
    have nR : ∀ l, ¬ (ft i = .locR l ∨ ft i = .locW l) := fun l h => by rw [hf] at h; rcases h with h | h <;> cases h
    refine step_frame tr hC r inv (by rw [hf]; intro h; cases h) (by rw [hf]; intro h; cases h) (v := v) (nl := fun f => f) h1 (fun _ _ _ => rfl) (fun l h => absurd (.inr h) (nR l))
      (fun u hn _ _ hu => h2 u hn hu) (fun l h => absurd h (nR l)) (fun h _ => ⟨h3 _ h, fun l h => absurd (.inr h) (nR l)⟩) hK
  · exact step_heap tr hC r inv hq hfm hff hK
  · obtain ⟨v, h1, h2, h3⟩ := evOp_locR ho hl hev
    obtain ⟨tx, off, hx, hxe⟩ := loc_operand hl
    have hone : ∀ l', (ft i = .locR l' ∨ ft i = .locW l') → l' = l := fun l' h => by rw [hf] at h; rcases h with h | h <;> cases h; rfl
    have nW : ∀ l', ft i ≠ .locW l' := fun l' h => by rw [hf] at h; cases h
    refine step_frame tr hC r inv (by rw [hf]; intro h; cases h) (by rw [hf]; intro h; cases h) (v := v) (nl := fun f => f) h1 (fun _ _ _ => rfl) (fun l h => absurd h (nW l))
      (fun u hn hg hu1 hu => h2 u hn hg (hu1 l (.inl hf)) hu) (fun l' h => ?_) (fun _ h => ⟨h3 _ (h l (.inl hf)), fun l h => absurd h (nW l)⟩) hK
    rw [hone l' h]
    exact ⟨tx, looks_op (by rw [ho, hx]; simp [Op.operands]), off, hxe⟩
  · obtain ⟨c, h1, h2, h3⟩ := evOp_locW ho hl hev
    obtain ⟨tx, off, hx, hxe⟩ := loc_operand hl
    have hone : ∀ l', (ft i = .locR l' ∨ ft i = .locW l') → l' = l := fun l' h => by rw [hf] at h; rcases h with h | h <;> cases h; rfl
    refine step_frame tr hC r inv (by rw [hf]; intro h; cases h) (by rw [hf]; intro h; cases h) (v := undef) (nl := fun f => updL f l c) h1 (fun l' h f => ?_) (fun l' h f g hfg => ?_)
      (fun u hn hg hu1 hu => h2 u hn hg (hu1 l (.inr hf)) hu) (fun l' h => ?_) (fun hk h => ⟨Cl.undef _, fun l' h' q hq => ?_⟩) hK
    · have : l' ≠ l := fun e => h (by rw [hf, e])
      simp [updL, this]
    · have : l' = l := hone l' (.inr h)
      simp [updL, this]
    · rw [hone l' h]
      exact ⟨tx, looks_op (by rw [ho, hx]; simp [Op.operands]), off, hxe⟩
    · rw [hone l' (.inr h'), h1, put_loc] at hq
      simp only [updL, if_true] at hq
      exact h3 _ (h l (.inr hf)) hk q hq
  · exact step_birth tr hC r inv hf ho hl hK

end

/-! ### Any order -/

theorem reach_closed {L : Nat → Prop} (hcl : ∀ k, L k → ∀ o, ops[k]? = some o → ∀ e ∈ o.after.toList, Region.binds .any e = true → L e.on) {i j : Nat} (h : Reach ops.toList i j) :
    (∀ o, ops[i]? = some o → ∀ e ∈ o.after.toList, Region.binds .any e = true → L e.on) → L j := by
  induction h with
  | base h he hb => intro hi; exact hi _ (by simpa using h) _ he hb
  | step h he hb _ ih => intro hi; exact ih (hcl _ (hi _ (by simpa using h) _ he hb))

theorem tmpsOk_spec (ht : tmpsOk ops.toList = true) {j : Nat} {o : Oper} (ho : ops[j]? = some o) :
    (∀ e ∈ o.after.toList, Region.binds .any e = true → e.on < j) ∧ ∀ t ∈ looks ops.toList o, Bound (Bm (masks ops.toList)) ops.size (Wt ops t) j := by
  unfold tmpsOk at ht
  rw [List.all_eq_true] at ht
  have h1 := ht (o, j) (by rw [List.mem_zipIdx_iff_getElem?]; simpa using ho)
  simp only [Bool.and_eq_true, List.all_eq_true] at h1
  refine ⟨fun e he hb => ?_, fun t hl k hk hw => ?_⟩
  · have := h1.1 e he
    rw [hb] at this
    simpa using this
  · obtain ⟨p, hp, hd⟩ := hw
    have h2 := h1.2 t hl (p, k) (by rw [List.mem_zipIdx_iff_getElem?]; simpa using hp)
    rw [hd] at h2
    simp only [bne_self_eq_false, Bool.or_false, Bool.or_eq_true, beq_iff_eq] at h2
    refine ⟨fun hlt => ?_, fun hlt => ?_⟩
    · rcases h2 with h | h
      · omega
      · rw [if_pos hlt] at h; exact h
    · rcases h2 with h | h
      · omega
      · rw [if_neg (by omega)] at h; exact h

theorem any_ok (tr : Trace P C ls ops (masks ops.toList) st ft) (hC : Sound P C) (ht : tmpsOk ops.toList = true) {m0 : Map} {β0 : LMap} {w0 : World} {Q : Exit → Act → World → Prop}
    (hQ : ∀ m β a w, Inv ops st ft m0 β0 w0 (fun _ => True) m β a w → Q .normal a w) :
    ∀ (fuel : Nat) (listed : Array Bool) (m : Map) (β : LMap) (a : Act) (w : World), listed.size = ops.size →
      (∀ k, listed.getD k false = true → ∀ o, ops[k]? = some o → ∀ e ∈ o.after.toList, Region.binds .any e = true → listed.getD e.on false = true) →
      (∃ rem : List Nat, rem.length ≤ fuel ∧ ∀ k, k < ops.size → listed.getD k false = false → k ∈ rem) →
      Inv ops st ft m0 β0 w0 (fun k => listed.getD k false = true) m β a w → wpAny P .any ops Q fuel listed a w := by
  have fin : ∀ (listed : Array Bool) (m : Map) (β : LMap) (a : Act) (w : World), (∀ k, k < ops.size → listed.getD k false = true) →
      Inv ops st ft m0 β0 w0 (fun k => listed.getD k false = true) m β a w → Q .normal a w := fun listed m β a w hall inv => by
    refine hQ m β a w ?_
    have hJ : ∀ {W : Nat → Prop} {j : Nat}, Jw ops.size W (fun _ => True) j → Jw ops.size W (fun k => listed.getD k false = true) j := fun h =>
      ⟨h.1, fun k hk hw => (h.2 k hk hw).trans ⟨fun _ => hall k hk, fun _ => trivial⟩⟩
    have hJ' : ∀ {W : Nat → Prop} {j : Nat}, Jw ops.size W (fun k => listed.getD k false = true) j → Jw ops.size W (fun _ => True) j := fun h =>
      ⟨h.1, fun k hk hw => (h.2 k hk hw).trans ⟨fun _ => trivial, fun _ => hall k hk⟩⟩
    exact { nt := inv.nt, df := inv.df, env := fun t j h => inv.env t j (hJ h), heap := fun e he htop => inv.heap e (hJ he) fun j hj => htop j (hJ' hj), clh := fun j hj => inv.clh j (hJ hj), loc := fun l b hb j hj => inv.loc l b hb j (hJ hj), inj := inv.inj, sep := inv.sep, domH := fun id e he => (inv.domH id e he).imp (fun h => h) fun ⟨k, _, h⟩ => ⟨k, trivial, h⟩, domL := fun l b hb => (inv.domL l b hb).imp (fun h => h) fun ⟨k, _, h⟩ => ⟨k, trivial, h⟩, le := inv.le, lel := inv.lel, fr := inv.fr }
  have hdf : ∀ (listed : Array Bool), listed.size = ops.size → ∀ k, k < ops.size → listed.getD k true = listed.getD k false := fun listed hsz k hk => by
    have : k < listed.size := by omega
    simp [this]
  intro fuel
  induction fuel with
  | zero =>
    intro listed m β a w hsz hcl ⟨rem, hr, hrem⟩ inv
    have hall : ∀ k, k < ops.size → listed.getD k false = true := fun k hk => by
      cases h : listed.getD k false with
      | true => rfl
      | false =>
        have := hrem k hk h
        rw [List.length_eq_zero_iff.1 (Nat.le_zero.1 hr)] at this
        simp at this
    refine ⟨?_, fin listed m β a w hall inv⟩
    unfold Region.ready
    rw [List.filter_eq_nil_iff]
    intro k hk
    rw [hdf listed hsz k (List.mem_range.1 hk), hall k (List.mem_range.1 hk)]
    simp
  | succ fuel ih =>
    intro listed m β a w hsz hcl ⟨rem, hr, hrem⟩ inv
    refine ⟨fun hnil => fin listed m β a w (fun k hk => ?_) inv, fun i hi => ?_⟩
    · cases h : listed.getD k false with
      | true => rfl
      | false =>
        exfalso
        obtain ⟨q, ⟨hq1, hq2⟩, hmin⟩ := least (p := fun q => q < ops.size ∧ listed.getD q false = false) ⟨k, hk, h⟩
        have hmem : q ∈ Region.ready .any ops listed := by
          unfold Region.ready
          rw [List.mem_filter]
          refine ⟨List.mem_range.2 hq1, ?_⟩
          have ho : ops[q]? = some ops[q] := by simp [hq1]
          rw [hdf listed hsz q hq1, hq2, ho]
          simp only [Bool.not_false, Bool.true_and, Option.map_some, Option.getD_some]
          rw [Array.all_eq_true']
          intro e he
          cases hb : Region.binds .any e with
          | false => rfl
          | true =>
            have hlt := (tmpsOk_spec ht ho).1 e (by simpa using he) hb
            have : listed.getD e.on false = true := by
              cases hh : listed.getD e.on false with
              | true => rfl
              | false => exact absurd ⟨by omega, hh⟩ (hmin e.on hlt)
            simp [this]
        rw [hnil] at hmem
        simp at hmem
    · unfold Region.ready at hi
      rw [List.mem_filter, List.mem_range] at hi
      obtain ⟨hin, hi2⟩ := hi
      have ho : ops[i]? = some ops[i] := by simp [hin]
      rw [hdf listed hsz i hin, ho] at hi2
      simp only [Option.map_some, Option.getD_some, Bool.and_eq_true, Bool.not_eq_true'] at hi2
      obtain ⟨hni, haft⟩ := hi2
      rw [Array.all_eq_true'] at haft
      have hdir : ∀ o, ops[i]? = some o → ∀ e ∈ o.after.toList, Region.binds .any e = true → listed.getD e.on false = true := fun o ho' e he hb => by
        rw [ho] at ho'
        cases ho'
        have := haft e (by simpa using he)
        rw [hb] at this
        simpa using this
      have hr' : Ready ops (Bm (masks ops.toList)) (fun k => listed.getD k false = true) i ops[i] := by
        refine ⟨ho, fun h => (by rw [hni] at h; cases h), fun k hk j hj => ?_, fun k hk => ?_, (tmpsOk_spec ht ho).2⟩
        · exact reach_closed hcl (masks_reach hj) (hcl k hk)
        · exact reach_closed hcl (masks_reach hk) hdir
      have hgetd : ∀ k, (listed.setIfInBounds i true).getD k false = true ↔ with_ (fun k => listed.getD k false = true) i k := fun k => by
        unfold with_
        show (listed.setIfInBounds i true).getD k false = true ↔ listed.getD k false = true ∨ k = i
        rw [Array.getD_eq_getD_getElem?, Array.getElem?_setIfInBounds, Array.getD_eq_getD_getElem?]
        by_cases hk : i = k
        · subst hk
          have : i < listed.size := by omega
          simp [this]
        · have hk' : k ≠ i := fun e => hk e.symm
          simp [hk, hk']
      have key := step_any tr hC hr' inv (K := wpAny P .any ops Q fuel (listed.setIfInBounds i true)) (Q := Q) fun m' β' a' w' inv' => by
        refine ih _ m' β' a' w' (by simp [hsz]) (fun k hk o ho' e he hb => ?_) ⟨rem.erase i, ?_, fun k hk hf => ?_⟩ ?_
        · rw [hgetd] at hk ⊢
          rcases hk with hk | rfl
          · exact .inl (hcl k hk o ho' e he hb)
          · exact .inl (hdir o ho' e he hb)
        · have := List.length_erase_of_mem (hrem i hin hni)
          omega
        · have hne : k ≠ i := fun e => by
            have := (hgetd k).2 (.inr e)
            rw [hf] at this; cases this
          have hold : listed.getD k false = false := by
            cases h : listed.getD k false with
            | false => rfl
            | true =>
              have := (hgetd k).2 (.inl h)
              rw [hf] at this; cases this
          exact (List.mem_erase_of_ne hne).2 (hrem k hk hold)
        · have : (fun k => (listed.setIfInBounds i true).getD k false = true) = with_ (fun k => listed.getD k false = true) i := funext fun k => propext (hgetd k)
          rw [this]
          exact inv'
      unfold wpOp
      rw [ho]
      simp only
      split
      · rename_i hw; rw [if_pos hw] at key; exact .inl key
      · rename_i hw; rw [if_neg hw] at key; exact key

end

/-- A region whose order is drawn comes to what it comes to in the text's order. -/
theorem draw_ok {P : Program} (hm : P.follows .mixedOrders = true) {C : Oracle} (hC : Sound P C) {ls : List Nat} {ops : Array Oper} {id : Nat} {s s' : St} (ht : tmpsOk ops.toList = true) (hev : evDraw P C ls ops (masks ops.toList) [] ops.toList s = some s') :
    CodeOK P (.region id ops true) s (.norm s') := by
  intro m β a w hs Q hQ
  obtain ⟨st, ft, tr, e0, en⟩ := trace_of hev
  refine wp_region_any hm ?_
  have hcl0 : ∀ {v cv : Value}, VL m β v cv → Cl (st 0).heap.size v := fun h => by
    rw [e0]
    rcases h with ⟨l, off, b, rfl, _, _⟩ | rfl | h
    · exact .loc _ rfl
    · exact .loc _ rfl
    · exact V.cl hs.h.dom h
  have hcells : ∀ {l : List Value} {Cc : Array Value} {o : Nat}, Cells m l Cc o → ∀ c ∈ l, Cl (st 0).heap.size c := fun h c hc => by
    obtain ⟨i, hi⟩ := List.getElem?_of_mem hc
    obtain ⟨_, cv, _, hv⟩ := h i c hi
    rw [e0]
    exact V.cl hs.h.dom hv
  refine any_ok tr hC ht (m0 := m) (β0 := β) (w0 := { w with drawn := w.drawn + 1 }) ?_ ops.size (Array.replicate ops.size false) m β a { w with drawn := w.drawn + 1 } (by simp) (fun k hk => ?_)
    ⟨List.range ops.size, by simp, fun k hk _ => List.mem_range.2 hk⟩ ?_
  · intro m' β' a' w' inv
    have hJ : ∀ {W : Nat → Prop}, Jw ops.size W (fun _ => True) ops.size := ⟨Nat.le_refl _, fun k hk _ => ⟨fun _ => trivial, fun _ => hk⟩⟩
    have hmono := tr.mono (Nat.zero_le ops.size) (Nat.le_refl _)
    subst e0 en
    refine hQ .normal m' β' (st ops.size) a' w' rfl ⟨inv.heap _ hJ fun j hj => hj.1, ⟨fun l b hb => ?_, fun l b hb => (inv.loc l b hb _ hJ).1, inv.inj, inv.sep⟩, fun t => (inv.env t _ hJ).1, ?_, inv.df⟩
      ⟨inv.le, inv.lel, ⟨inv.fr.os, inv.fr.tape, inv.fr.output, inv.fr.size, inv.fr.keep, inv.fr.lkeep, inv.fr.img, inv.fr.limg, inv.fr.frame, inv.fr.shape, inv.fr.img2, inv.fr.rest⟩, hmono.1, hmono.2.1⟩
    · rcases inv.domL l b hb with h | ⟨k, _, hk, _, _, h⟩
      · exact Nat.lt_of_lt_of_le h hmono.2.1
      · exact Nat.lt_of_lt_of_le h (tr.mono (show k + 1 ≤ ops.size from hk) (Nat.le_refl _)).2.1
    · rw [inv.nt, hmono.2.2]
  · rw [Array.getD_eq_getD_getElem?, Array.getElem?_replicate] at hk
    split at hk <;> simp at hk
  · have hnone : ∀ k, ¬ ((Array.replicate ops.size false).getD k false = true) := fun k h => by
      rw [Array.getD_eq_getD_getElem?, Array.getElem?_replicate] at h
      split at h <;> simp at h
    have hJ0 : ∀ {W : Nat → Prop} {j : Nat}, Jw ops.size W (fun k => (Array.replicate ops.size false).getD k false = true) j → ∀ k, 0 ≤ k → k < j → ¬ W k := fun h k _ hk hw =>
      hnone k ((h.2 k (Nat.lt_of_lt_of_le hk h.1) hw).1 hk)
    have hsize : ∀ {j : Nat}, j ≤ ops.size → (st 0).heap.size ≤ (st j).heap.size := fun h => (tr.mono (Nat.zero_le _) h).1
    refine { nt := by rw [e0]; exact hs.nt, df := hs.df, env := fun t j hj => ?_, heap := fun e he _ => ?_, clh := fun j hj id x hx _ c hc => ?_, loc := fun l b hb j hj => ?_, inj := hs.l.inj, sep := hs.l.sep, domH := fun id x hx => .inl (by rw [e0]; exact hs.h.dom id x hx), domL := fun l b hb => .inl (by rw [e0]; exact hs.l.dom l b hb), le := Le.refl _, lel := fun _ _ h => h, fr := Fr.refl _ _ _ _ _ }
    · rw [tr.env_path (Nat.zero_le j) hj.1 (hJ0 hj)]
      have := hs.env t
      rw [← e0] at this
      exact ⟨this, (hcl0 this).mono (hsize hj.1)⟩
    · have hg := tr.grown (Nat.zero_le e) he.1 (hJ0 he)
      have hh := hs.h
      rw [← e0] at hh
      refine ⟨fun id x hx => Nat.lt_of_lt_of_le (hh.dom id x hx) hg.1.1, fun id x hx => ?_, fun p q x y hx hy hxy => ?_⟩
      · rw [hg.1.2 id (hh.dom id x hx)]; exact hh.blk id x hx
      · rw [hg.1.2 p (hh.dom p x hx), hg.1.2 q (hh.dom q y hy)]; exact hh.alias p q x y hx hy hxy
    · have hg := tr.grown (Nat.zero_le j) hj.1 (hJ0 hj)
      have hh := hs.h
      rw [← e0] at hh
      rw [hg.1.2 id (hh.dom id x hx)] at hc
      obtain ⟨Cc, t, f, _, _, _, _, k5⟩ := hh.blk id x hx
      exact (hcells k5 c hc).mono (hsize hj.1)
    · rw [tr.loc_path (Nat.zero_le j) hj.1 (hJ0 hj)]
      have hl := hs.l.blk l b hb
      rw [← e0] at hl
      obtain ⟨Cc, t, f, k1, k2, k3, k4⟩ := hl
      exact ⟨⟨Cc, t, f, k1, k2, k3, k4⟩, fun c hc => (hcells k4 c hc).mono (hsize hj.1)⟩

end Go.Abs
