/-
  THE ABSTRACT MACHINE AND THE MODEL: a region whose order is drawn: one operation, wanted or not, by its footprint.
-/
import Derived.Test.YtifiajbjfoigcaaGreatAbsDrawA
namespace Go.Abs
open Go
set_option linter.unusedSimpArgs false

theorem looks_dst {ops : List Oper} {o : Oper} {d : Tmp} (h : o.dst = some d) : d ∈ looks ops o := by
  unfold looks
  simp [h]

theorem looks_op {ops : List Oper} {o : Oper} {t : Tmp} (h : Operand.tmp t ∈ o.op.operands) : t ∈ looks ops o := by
  unfold looks tmpsIn
  simp only [List.mem_append, List.mem_filterMap]
  exact .inl (.inr ⟨.tmp t, by simpa using h, rfl⟩)

theorem looks_guard {ops : Array Oper} {o oj : Oper} {j d : Nat} {want : Bool} (hg : o.guard = some (j, want)) (hj : ops[j]? = some oj) (hd : oj.dst = some d) : d ∈ looks ops.toList o := by
  unfold looks
  simp only [List.mem_append]
  right
  rw [hg]
  simp only [Array.getElem?_toList, hj, hd]
  simp

theorem ev_agree {s u : St} {p : Value → Prop} {ts : List Nat} (h : ∀ t ∈ ts, p (s.env t) → u.env t = s.env t) {x : Operand} (hx : ∀ t, x = .tmp t → t ∈ ts) (hp : p (s.ev x)) : u.ev x = s.ev x := by
  cases x with
  | tmp t => exact h t (hx t rfl) hp
  | _ => rfl

theorem ev_cl {s : St} {k : Nat} {ts : List Nat} (h : ∀ t ∈ ts, Cl k (s.env t)) {x : Operand} (hx : ∀ t, x = .tmp t → t ∈ ts) : Cl k (s.ev x) := by
  cases x with
  | tmp t => exact h t (hx t rfl)
  | const v =>
    show Cl k (if flatB v then v else bot)
    split
    · rename_i hf; exact Cl.of_flat hf
    · exact .loc _ rfl
  | global g => exact .loc _ rfl
  | func f => exact .func f _ _ (fun i x hx => by simp at hx) fun i x hx => by simp at hx

theorem wanted_agree {ops : Array Oper} {o : Oper} {s u : St} {b : Bool} (hw : wanted ops o s = some b) (hn : u.nt = s.nt) (h : ∀ t ∈ looks ops.toList o, isLoc (s.env t) = false → u.env t = s.env t) : wanted ops o u = some b := by
  unfold wanted at hw ⊢
  split at hw
  · exact hw
  · rename_i j want hg
    split at hw
    · rename_i oj hj
      split at hw
      · rename_i d hd
        rw [hn]
        split at hw
        · rename_i hlt
          rw [if_pos hlt]
          have e : u.env d = s.env d := h d (looks_guard hg hj hd) (by
            split at hw
            · rename_i e; rw [e]; rfl
            · rename_i e; rw [e]; rfl
            · cases hw)
          rw [e]
          exact hw
        · cases hw
      · cases hw
    · cases hw

section
variable {P : Program} {C : Oracle} {ls : List Nat} {ops : Array Oper} {o : Oper} {s s' : St}

theorem evOp_quiet (hq : quietAt s o.op = true) (h : evOp P C ls ops o s = some s') :
    ∃ v, s' = s.put o.dst v ∧ (∀ u : St, u.nt = s.nt → (∀ t ∈ looks ops.toList o, u.env t = s.env t) → evOp P C ls ops o u = some (u.put o.dst v)) ∧
      ∀ k, (∀ t ∈ looks ops.toList o, Cl k (s.env t)) → Cl k v := by
  unfold evOp at h ⊢
  split at h
  · rename_i hw
    split at h
    · rename_i t hop
      cases h
      obtain ⟨v, h1, h2, h3⟩ := aop_quiet hq hop
      cases h1
      refine ⟨v, rfl, fun u hn hu => ?_, fun k hk => h3 k fun x hx => ev_cl hk fun t ht => looks_op (ht ▸ hx)⟩
      rw [wanted_agree hw hn fun t ht _ => hu t ht]
      simp only
      rw [h2 u fun x hx => ev_agree (p := fun _ => True) (fun t ht _ => hu t ht) (fun t ht => looks_op (ht ▸ hx)) trivial]
    · rename_i f args hop
      obtain ⟨v, h1, _⟩ := aop_quiet hq hop
      cases h1
    · cases h
  · rename_i hw
    cases h
    refine ⟨undef, rfl, fun u hn hu => ?_, fun k _ => Cl.undef k⟩
    rw [wanted_agree hw hn fun t ht _ => hu t ht]
  · cases h

theorem evOp_heap (hq : quietAt s o.op = false) (hf : ∀ s', foot ls o s s' = some .ext ∨ foot ls o s s' = some .mut ∨ foot ls o s s' = none) (h : evOp P C ls ops o s = some s') :
    ∃ v H', s' = { s with heap := H' }.put o.dst v ∧ ∀ u : St, u.nt = s.nt → u.heap = s.heap → (∀ t ∈ looks ops.toList o, isLoc (s.env t) = false → u.env t = s.env t) →
      evOp P C ls ops o u = some ({ u with heap := H' }.put o.dst v) := by
  unfold evOp at h ⊢
  split at h
  · rename_i hw
    split at h
    · rename_i t hop
      cases h
      obtain ⟨h1, h2⟩ := aop_heap hq hf hop
      obtain ⟨v, H', e1, _⟩ := h2 s rfl fun _ _ => rfl
      refine ⟨v, H', e1, fun u hn hh hu => ?_⟩
      rw [wanted_agree hw hn hu]
      simp only
      obtain ⟨v', H'', e2, e3⟩ := h2 u hh fun x hx => ev_agree (p := fun v => isLoc v = false) hu (fun t ht => looks_op (ht ▸ hx)) (h1 x hx)
      rw [e3]
      simp only
      have hH : H' = H'' := by
        have := congrArg St.heap (e1.symm.trans e2)
        simpa [put_heap] using this
      subst hH
      congr 1
      cases hd : o.dst with
      | none => rfl
      | some d =>
        rw [hd] at e1 e2
        have he := congrArg (fun q : St => q.env d) (e1.symm.trans e2)
        simp only [St.put] at he ⊢
        by_cases hlt : d < s.nt
        · simp only [hlt, and_self, if_true] at he
          rw [he]
        · have : ¬ d < u.nt := by rw [hn]; exact hlt
          simp [this]
    · rename_i f args hop
      obtain ⟨h1, h2⟩ := aop_heap hq hf hop
      split at h
      · rename_i v H' hc
        cases h
        refine ⟨v, H', rfl, fun u hn hh hu => ?_⟩
        rw [wanted_agree hw hn hu]
        simp only
        have e3 := h2 u hh fun x hx => ev_agree (p := fun v => isLoc v = false) hu (fun t ht => looks_op (ht ▸ hx)) (h1 x hx)
        simp only at e3
        rw [e3]
        simp only
        rw [hh, hc]
      · cases h
    · cases h
  · rename_i hw
    cases h
    refine ⟨undef, s.heap, rfl, fun u hn hh hu => ?_⟩
    rw [wanted_agree hw hn hu]
    rw [← hh]
  · cases h

theorem locOf_some {v : Value} {l : Nat} (h : locOf v = some l) : ∃ off, v = lptr l off := by
  unfold locOf at h
  split at h
  · cases h; exact ⟨_, rfl⟩
  · cases h

theorem evOp_locR {t : TypeId} {a : Operand} {l : Nat} (ho : o.op = .load t a) (hl : locOf (s.ev a) = some l) (h : evOp P C ls ops o s = some s') :
    ∃ v, s' = s.put o.dst v ∧ (∀ u : St, u.nt = s.nt → s.gen ≤ u.gen → u.loc l = s.loc l → (∀ t ∈ looks ops.toList o, u.env t = s.env t) → evOp P C ls ops o u = some (u.put o.dst v)) ∧
      ∀ k, (∀ c ∈ s.loc l, Cl k c) → Cl k v := by
  obtain ⟨off, ha⟩ := locOf_some hl
  unfold evOp at h ⊢
  split at h
  · rename_i hw
    unfold aop at h ⊢
    rw [ho] at h ⊢
    simp only at h ⊢
    cases hti : TI P t with
    | none => rw [hti] at h; cases h
    | some ti =>
      rw [hti] at h
      simp only at h
      rw [ha] at h
      simp only [St.cellsAt, lptr] at h
      cases hv : (if l < s.gen then window (s.loc l) off ti.size else none : Option (List Value)).bind (mk ti.agg) with
      | none => rw [hv] at h; cases h
      | some v =>
        rw [hv] at h
        cases h
        refine ⟨v, rfl, fun u hn hg hlu hu => ?_, fun k hk => ?_⟩
        · rw [wanted_agree hw hn fun t ht _ => hu t ht]
          simp only
          have ea : u.ev a = s.ev a := ev_agree (p := fun _ => True) (fun t ht _ => hu t ht) (fun t ht => looks_op (by rw [ho]; simp [Op.operands, ht])) trivial
          rw [ea, ha]
          simp only [St.cellsAt, lptr]
          split at hv
          · rename_i hlt
            rw [if_pos (by omega), hlu, hv]
            rfl
          · cases hv
        · split at hv
          · exact Cl.bindMk hv hk
          · cases hv
  · rename_i hw
    cases h
    refine ⟨undef, rfl, fun u hn _ _ hu => ?_, fun k _ => Cl.undef k⟩
    rw [wanted_agree hw hn fun t ht _ => hu t ht]
  · cases h

/-- One variable of the frame set anew. -/
def updL (loc : Nat → List Value) (l : Nat) (c : List Value) : Nat → List Value := fun x => if x = l then c else loc x

theorem updL_self (loc : Nat → List Value) (l : Nat) : updL loc l (loc l) = loc := by
  funext x
  unfold updL
  split
  · rename_i h; rw [h]
  · rfl

theorem evOp_locW {t : TypeId} {a x : Operand} {l : Nat} (ho : o.op = .store t a x) (hl : locOf (s.ev a) = some l) (h : evOp P C ls ops o s = some s') :
    ∃ c, s' = { s with loc := updL s.loc l c }.put o.dst undef ∧
      (∀ u : St, u.nt = s.nt → s.gen ≤ u.gen → u.loc l = s.loc l → (∀ t ∈ looks ops.toList o, u.env t = s.env t) → evOp P C ls ops o u = some ({ u with loc := updL u.loc l c }.put o.dst undef)) ∧
      ∀ k, (∀ c ∈ s.loc l, Cl k c) → (∀ t ∈ looks ops.toList o, Cl k (s.env t)) → ∀ q ∈ c, Cl k q := by
  obtain ⟨off, ha⟩ := locOf_some hl
  unfold evOp at h ⊢
  split at h
  · rename_i hw
    unfold aop at h ⊢
    rw [ho] at h ⊢
    simp only at h ⊢
    cases hti : TI P t with
    | none => rw [hti] at h; cases h
    | some ti =>
      rw [hti] at h
      simp only at h
      split at h
      · rename_i s1 h1
        cases h
        split at h1
        · rename_i hc
          rw [ha] at h1
          simp only [St.storeAt, lptr] at h1
          split at h1
          · rename_i hb
            cases h1
            refine ⟨_, rfl, fun u hn hg hlu hu => ?_, fun k hk hk2 q hq => ?_⟩
            · rw [wanted_agree hw hn fun t ht _ => hu t ht]
              simp only
              have ea : u.ev a = s.ev a := ev_agree (p := fun _ => True) (fun t ht _ => hu t ht) (fun t ht => looks_op (by rw [ho]; simp [Op.operands, ht])) trivial
              have ex : u.ev x = s.ev x := ev_agree (p := fun _ => True) (fun t ht _ => hu t ht) (fun t ht => looks_op (by rw [ho]; simp [Op.operands, ht])) trivial
              rw [ea, ex, if_pos hc, ha]
              simp only [St.storeAt, lptr]
              rw [hlu, if_pos ⟨by omega, hb.2⟩]
              rfl
            · rcases splice_sub _ _ _ q hq with hq | hq
              · exact hk q hq
              · exact Cl.cells (ev_cl hk2 fun t ht => looks_op (by rw [ho]; simp [Op.operands, ht])) (storable_isLoc hc.2.2) q hq
          · cases h1
        · cases h1
      · rename_i f args h1
        split at h1
        · rw [ha] at h1
          simp only [St.storeAt, lptr] at h1
          split at h1 <;> cases h1
        · cases h1
      · cases h
  · rename_i hw
    cases h
    refine ⟨s.loc l, by rw [updL_self], fun u hn _ hlu hu => ?_, fun k hk _ => hk⟩
    rw [wanted_agree hw hn fun t ht _ => hu t ht, ← hlu, updL_self]
  · cases h

theorem make_local {s : St} {ls : List Nat} {dst : Option Tmp} (hl : dst.any (ls.contains ·) = true) (c : List Value) : s.make ls dst c = { s with loc := updL s.loc s.gen c, gen := s.gen + 1 }.put dst (lptr s.gen 0) := by
  unfold St.make
  rw [if_pos hl]
  rfl

theorem evOp_birth (ho : (∃ t, o.op = .alloc t) ∨ ∃ t x, o.op = .box t x) (hl : o.dst.any (ls.contains ·) = true) (h : evOp P C ls ops o s = some s') :
    ∃ c g v, s.gen ≤ g ∧ g ≤ s.gen + 1 ∧ s' = { s with loc := updL s.loc s.gen c, gen := g }.put o.dst v ∧
      (∀ u : St, u.nt = s.nt → u.gen = s.gen → u.loc = s.loc → (∀ t ∈ looks ops.toList o, isLoc (s.env t) = false → u.env t = s.env t) →
        evOp P C ls ops o u = some ({ u with loc := updL u.loc s.gen c, gen := g }.put o.dst v)) ∧ (∀ k, Cl k v) ∧
      ∀ k, (g = s.gen + 1 → (∀ t ∈ looks ops.toList o, Cl k (s.env t)) → ∀ q ∈ c, Cl k q) := by
  unfold evOp at h ⊢
  split at h
  · rename_i hw
    unfold aop at h ⊢
    rcases ho with ⟨t, ho⟩ | ⟨t, x, ho⟩
    · rw [ho] at h ⊢
      simp only at h ⊢
      cases hti : TI P t with
      | none => rw [hti] at h; cases h
      | some ti =>
        rw [hti] at h
        cases h
        refine ⟨ti.zero, s.gen + 1, lptr s.gen 0, Nat.le_succ _, Nat.le_refl _, make_local hl _, fun u hn hg hlu hu => ?_, fun k => .loc _ rfl, fun k _ _ q hq => ?_⟩
        · rw [wanted_agree hw hn hu]
          simp only
          rw [make_local hl, hg]
        · obtain ⟨i, d, zz, e1, e2, e3, e4, e5, e6, e7, e8⟩ := TI_spec hti
          exact Cl.of_flat0 (e8 q (by rw [← e6]; exact hq))
    · rw [ho] at h ⊢
      simp only at h ⊢
      cases hti : TI P t with
      | none => rw [hti] at h; cases h
      | some ti =>
        rw [hti] at h
        simp only at h
        split at h
        · rename_i s1 h1
          split at h1
          · rename_i hst
            cases h1
            cases h
            refine ⟨(s.ev x).cells.toList, s.gen + 1, lptr s.gen 0, Nat.le_succ _, Nat.le_refl _, make_local hl _, fun u hn hg hlu hu => ?_, fun k => .loc _ rfl, fun k _ hk q hq => ?_⟩
            · rw [wanted_agree hw hn hu]
              simp only
              have ex : u.ev x = s.ev x := ev_agree (p := fun v => isLoc v = false) hu (fun t ht => looks_op (by rw [ho]; simp [Op.operands, ht])) (storable_isLoc hst)
              rw [ex, if_pos hst]
              simp only
              rw [make_local hl, hg]
            · exact Cl.cells (ev_cl hk fun t ht => looks_op (by rw [ho]; simp [Op.operands, ht])) (storable_isLoc hst) q hq
          · cases h1
        · rename_i f args h1
          split at h1 <;> cases h1
        · cases h
  · rename_i hw
    cases h
    refine ⟨s.loc s.gen, s.gen, undef, Nat.le_refl _, Nat.le_succ _, by rw [updL_self], fun u hn hg hlu hu => ?_, fun k => Cl.undef k, fun k hg => by omega⟩
    rw [wanted_agree hw hn hu, ← hlu, updL_self, ← hg]
  · cases h

/-- What the footprint says of an operation. -/
theorem foot_cases {f : Foot} (hf : foot ls o s s' = some f) :
    (f = .pure ∧ quietAt s o.op = true) ∨
    (quietAt s o.op = false ∧ (f = .ext ∨ f = .mut) ∧ ∀ t, foot ls o s t = some .ext ∨ foot ls o s t = some .mut ∨ foot ls o s t = none) ∨
    (∃ l t a, f = .locR l ∧ o.op = .load t a ∧ locOf (s.ev a) = some l) ∨
    (∃ l t a x, f = .locW l ∧ o.op = .store t a x ∧ locOf (s.ev a) = some l) ∨
    (f = .locW s.gen ∧ ((∃ t, o.op = .alloc t) ∨ ∃ t x, o.op = .box t x) ∧ o.dst.any (ls.contains ·) = true) := by
  by_cases hq : quietAt s o.op = true
  · unfold foot at hf
    rw [if_pos hq] at hf
    cases hf
    exact .inl ⟨rfl, hq⟩
  · have hq' : quietAt s o.op = false := by simpa using hq
    unfold foot at hf
    simp only [if_neg hq] at hf
    cases ho : o.op with
    | load t a =>
      rw [ho] at hf
      simp only at hf
      cases hl : locOf (s.ev a) with
      | some l => rw [hl] at hf; cases hf; exact .inr (.inr (.inl ⟨l, t, a, rfl, rfl, hl⟩))
      | none =>
        rw [hl] at hf; cases hf
        exact .inr (.inl ⟨rfl, .inl rfl, fun t => .inl (by unfold foot; rw [ho] at hq ⊢; simp [hq, hl])⟩)
    | store t a x =>
      rw [ho] at hf
      simp only at hf
      cases hl : locOf (s.ev a) with
      | some l => rw [hl] at hf; cases hf; exact .inr (.inr (.inr (.inl ⟨l, t, a, x, rfl, rfl, hl⟩)))
      | none =>
        rw [hl] at hf; cases hf
        exact .inr (.inl ⟨rfl, .inr rfl, fun t => .inr (.inl (by unfold foot; rw [ho] at hq ⊢; simp [hq, hl]))⟩)
    | alloc t =>
      rw [ho] at hf
      simp only at hf
      split at hf
      · rename_i hl; cases hf; exact .inr (.inr (.inr (.inr ⟨rfl, .inl ⟨t, rfl⟩, hl⟩)))
      · rename_i hl; cases hf
        exact .inr (.inl ⟨rfl, .inl rfl, fun t => .inl (by unfold foot; rw [ho] at hq ⊢; simp only [if_neg hq, if_neg hl])⟩)
    | box t x =>
      rw [ho] at hf
      simp only at hf
      split at hf
      · rename_i hl; cases hf; exact .inr (.inr (.inr (.inr ⟨rfl, .inr ⟨t, x, rfl⟩, hl⟩)))
      · rename_i hl; cases hf
        exact .inr (.inl ⟨rfl, .inl rfl, fun t => .inl (by unfold foot; rw [ho] at hq ⊢; simp only [if_neg hq, if_neg hl])⟩)
    | _ =>
      rw [ho] at hf hq
      first
        | (exact absurd rfl hq)
        | (simp only at hf
           refine .inr (.inl ⟨by simpa using hq, ?_, fun t => ?_⟩)
           · split at hf
             · cases hf; exact .inl rfl
             · split at hf
               · cases hf; exact .inr rfl
               · cases hf
           · unfold foot
             rw [ho]
             simp only [if_neg hq]
             split
             · exact .inl rfl
             · split
               · exact .inr (.inl rfl)
               · exact .inr (.inr rfl))

theorem Grown.refl (H : Heap) : Grown H H := ⟨⟨Nat.le_refl _, fun _ _ => rfl⟩, fun i h1 h2 => by omega⟩

theorem Grown.push (H : Heap) (c : List Value) (es : Nat) : Grown H (H.push c es) := by
  refine ⟨⟨Nat.le_succ _, fun i hi => ?_⟩, fun i h1 h2 => ?_⟩
  · show (if i = H.size then _ else H.blk i) = H.blk i
    rw [if_neg (by omega)]
  · have : i = H.size := by
      have : i < H.size + 1 := h2
      omega
    subst this
    show H.size ≤ (if H.size = H.size then _ else _ : Blk).root
    rw [if_pos rfl]
    exact Nat.le_refl _

theorem write_size (H : Heap) (id off : Nat) (vs : List Value) : (H.write id off vs).size = H.size := rfl

/-- An operation that changes no block's being there. -/
theorem foot_heap (hev : evOp P C ls ops o s = some s') {f : Foot} (hf : foot ls o s s' = some f) :
    (f = .mut → s.heap.size ≤ s'.heap.size) ∧ (f = .ext → Grown s.heap s'.heap) := by
  have put_h : ∀ (q : St) d v, (q.put d v).heap = q.heap := put_heap
  refine ⟨fun hm => ?_, fun he => ?_⟩
  · subst hm
    unfold foot at hf
    split at hf
    · cases hf
    · split at hf
      · split at hf <;> cases hf
      · rename_i t a x ho
        cases hl : locOf (s.ev a) with
        | some l => rw [hl] at hf; cases hf
        | none =>
          unfold evOp at hev
          split at hev
          · unfold aop at hev
            rw [ho] at hev
            simp only at hev
            cases hti : TI P t with
            | none => rw [hti] at hev; cases hev
            | some ti =>
              rw [hti] at hev
              simp only at hev
              split at hev
              · rename_i s1 h1
                cases hev
                split at h1
                · cases hst : s.storeAt (s.ev a) (s.ev x).cells.toList with
                  | none => rw [hst] at h1; cases h1
                  | some s2 =>
                    rw [hst] at h1
                    cases h1
                    rw [put_h]
                    unfold St.storeAt at hst
                    split at hst
                    · split at hst
                      · cases hst; exact Nat.le_refl _
                      · cases hst
                    · split at hst
                      · cases hst; exact Nat.le_refl _
                      · cases hst
                    · cases hst
                · cases h1
              · rename_i h1
                split at h1
                · cases hst : s.storeAt (s.ev a) (s.ev x).cells.toList with
                  | none => rw [hst] at h1; cases h1
                  | some s2 => rw [hst] at h1; cases h1
                · cases h1
              · cases hev
          · cases hev; rw [put_h]; exact Nat.le_refl _
          · cases hev
      · split at hf <;> cases hf
      · split at hf <;> cases hf
      · split at hf
        · cases hf
        · split at hf
          · assumption
          · cases hf
  · subst he
    unfold foot at hf
    split at hf
    · cases hf
    · split at hf
      · rename_i t a ho
        unfold evOp at hev
        split at hev
        · unfold aop at hev
          rw [ho] at hev
          simp only at hev
          cases hti : TI P t with
          | none => rw [hti] at hev; cases hev
          | some ti =>
            rw [hti] at hev
            simp only at hev
            cases hv : (s.cellsAt (s.ev a) ti.size).bind (mk ti.agg) with
            | none => rw [hv] at hev; cases hev
            | some v => rw [hv] at hev; cases hev; rw [put_h]; exact Grown.refl _
        · cases hev; rw [put_h]; exact Grown.refl _
        · cases hev
      · split at hf <;> cases hf
      · rename_i t ho
        split at hf
        · cases hf
        · rename_i hl
          unfold evOp at hev
          split at hev
          · unfold aop at hev
            rw [ho] at hev
            simp only at hev
            cases hti : TI P t with
            | none => rw [hti] at hev; cases hev
            | some ti =>
              rw [hti] at hev
              cases hev
              unfold St.make
              rw [if_neg hl, put_h]
              exact Grown.push _ _ _
          · cases hev; rw [put_h]; exact Grown.refl _
          · cases hev
      · rename_i t x ho
        split at hf
        · cases hf
        · rename_i hl
          unfold evOp at hev
          split at hev
          · unfold aop at hev
            rw [ho] at hev
            simp only at hev
            cases hti : TI P t with
            | none => rw [hti] at hev; cases hev
            | some ti =>
              rw [hti] at hev
              simp only at hev
              split at hev
              · rename_i s1 h1
                split at h1
                · cases h1; cases hev
                  unfold St.make
                  rw [if_neg hl, put_h]
                  exact Grown.push _ _ _
                · cases h1
              · rename_i h1
                split at h1 <;> cases h1
              · cases hev
          · cases hev; rw [put_h]; exact Grown.refl _
          · cases hev
      · split at hf
        · assumption
        · split at hf <;> cases hf

end
end Go.Abs
