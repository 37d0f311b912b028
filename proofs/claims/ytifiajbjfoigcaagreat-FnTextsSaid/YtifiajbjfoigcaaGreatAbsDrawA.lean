/-
  THE ABSTRACT MACHINE AND THE MODEL: a region whose order is drawn: what each kind of operation hangs on.
-/
import Derived.Test.YtifiajbjfoigcaaGreatAbsRun
namespace Go.Abs
open Go
set_option linter.unusedSimpArgs false

/-! ### What comes ahead of what -/

inductive Reach (ops : List Oper) : Nat → Nat → Prop
  | base {i : Nat} {o : Oper} {e : Edge} (h : ops[i]? = some o) (he : e ∈ o.after.toList) (hb : Region.binds .any e = true) : Reach ops i e.on
  | step {i j : Nat} {o : Oper} {e : Edge} (h : ops[i]? = some o) (he : e ∈ o.after.toList) (hb : Region.binds .any e = true) (r : Reach ops e.on j) : Reach ops i j

theorem maskFold_bit (acc : List Nat) (j : Nat) : ∀ (l : List Edge) (s : Nat), (l.foldl (fun s e => if Region.binds .any e then s ||| 2 ^ e.on ||| acc.getD e.on 0 else s) s).testBit j = true →
    s.testBit j = true ∨ ∃ e ∈ l, Region.binds .any e = true ∧ (e.on = j ∨ (acc.getD e.on 0).testBit j = true)
  | [], s, h => .inl h
  | e :: l, s, h => by
    simp only [List.foldl_cons] at h
    rcases maskFold_bit acc j l _ h with h1 | ⟨e', h1, h2⟩
    · split at h1
      · rename_i hb
        simp only [Nat.testBit_or, Bool.or_eq_true, Nat.testBit_two_pow, decide_eq_true_eq] at h1
        rcases h1 with (h1 | h1) | h1
        · exact .inl h1
        · exact .inr ⟨e, List.mem_cons_self .., hb, .inl h1⟩
        · exact .inr ⟨e, List.mem_cons_self .., hb, .inr h1⟩
      · exact .inl h1
    · exact .inr ⟨e', List.mem_cons_of_mem _ h1, h2⟩

theorem masks_go (ops : List Oper) : ∀ (rest pre : List Oper) (acc : List Nat), ops = pre ++ rest → acc.length = pre.length → (∀ k j, (acc.getD k 0).testBit j = true → Reach ops k j) →
    ∀ k j, ((rest.foldl (fun acc o => acc ++ [maskOf acc o]) acc).getD k 0).testBit j = true → Reach ops k j
  | [], pre, acc, _, _, h => h
  | o :: rest, pre, acc, he, hl, h => by
    simp only [List.foldl_cons]
    refine masks_go ops rest (pre ++ [o]) _ (by simp [he]) (by simp [hl]) ?_
    intro k j hb
    rw [List.getD_eq_getElem?_getD, List.getElem?_append] at hb
    split at hb
    · exact h k j (by rw [List.getD_eq_getElem?_getD]; exact hb)
    · rename_i hk
      by_cases hk' : k = acc.length
      · subst hk'
        simp only [Nat.sub_self, List.getElem?_cons_zero, Option.getD_some] at hb
        have ho : ops[acc.length]? = some o := by rw [he, hl]; simp
        rcases maskFold_bit acc j _ _ hb with h1 | ⟨e, h1, h2, h3⟩
        · simp at h1
        · rcases h3 with rfl | h3
          · exact .base ho h1 h2
          · exact .step ho h1 h2 (h e.on j h3)
      · rw [List.getElem?_eq_none (by simp; omega)] at hb
        simp at hb

theorem masks_reach {ops : List Oper} {k j : Nat} (h : ((masks ops).getD k 0).testBit j = true) : Reach ops k j :=
  masks_go ops ops [] [] rfl rfl (fun k j h => by simp at h) k j h

/-! ### Values of the blocks below n alone -/

inductive Cl (k : Nat) : Value → Prop
  | loc (v : Value) (h : isLoc v = true) : Cl k v
  | bool (b : Bool) : Cl k (.bool b)
  | int (q : IntKind) (n : Int) : Cl k (.int q n)
  | str (s : ByteArray) : Cl k (.string s)
  | nilp : Cl k (.pointer none)
  | ptr (id off : Nat) (h : id < k) : Cl k (.pointer (some ⟨id, off, none⟩))
  | nils : Cl k (.slice none 0 0)
  | slc (id off len c : Nat) (h : id < k) : Cl k (.slice (some ⟨id, off, none⟩) len c)
  | nilf : Cl k .nilFunc
  | nili : Cl k .nilIface
  | func (f : FuncId) (fi ca : Array Value) (h1 : ∀ (i : Nat) x, fi[i]? = some x → Cl k x) (h2 : ∀ (i : Nat) x, ca[i]? = some x → Cl k x) : Cl k (.func (.func f) fi ca)
  | agg (xs : Array Value) (h : ∀ (i : Nat) x, xs[i]? = some x → Cl k x) : Cl k (.agg xs)
  | tup (xs : Array Value) (h : ∀ (i : Nat) x, xs[i]? = some x → Cl k x) : Cl k (.tuple xs)

theorem V.cl {m : Map} {k : Nat} (hd : ∀ id e, m id = some e → id < k) {v cv : Value} (h : V m v cv) : Cl k v := by
  induction h with
  | bool b => exact .bool b
  | int q n => exact .int q n
  | str s => exact .str s
  | nilp => exact .nilp
  | ptr id off e h => exact .ptr id off (hd _ _ h)
  | nils => exact .nils
  | slc id off len c cap o e h hl hc ho ht => exact .slc id off len c (hd _ _ h)
  | nilf => exact .nilf
  | nili => exact .nili
  | func f fi fi' ca ca' h1 h2 h3 h4 i3 i4 =>
    refine .func f fi ca (fun i x hx => ?_) fun i x hx => ?_
    · have hi : i < fi'.size := by rw [← h1]; exact (Array.getElem?_eq_some_iff.1 hx).1
      exact i3 i x fi'[i] hx (by simp [hi])
    · have hi : i < ca'.size := by rw [← h2]; exact (Array.getElem?_eq_some_iff.1 hx).1
      exact i4 i x ca'[i] hx (by simp [hi])
  | agg xs ys h h1 hh ih =>
    refine .agg xs fun i x hx => ?_
    have hi : i < ys.size := by rw [← h]; exact (Array.getElem?_eq_some_iff.1 hx).1
    exact ih i x ys[i] hx (by simp [hi])
  | tup xs ys h hh ih =>
    refine .tup xs fun i x hx => ?_
    have hi : i < ys.size := by rw [← h]; exact (Array.getElem?_eq_some_iff.1 hx).1
    exact ih i x ys[i] hx (by simp [hi])

theorem Cl.down {k : Nat} {m : Map} {v cv : Value} (h : V m v cv) : Cl k v → V (Abs.below m k) v cv := by
  have below_lt : ∀ {id : Nat} {e : Ent}, id < k → m id = some e → Abs.below m k id = some e := fun h1 h2 => by
    unfold Abs.below
    rw [if_pos h1]
    exact h2
  induction h with
  | bool b => intro _; exact .bool b
  | int q n => intro _; exact .int q n
  | str s => intro _; exact .str s
  | nilp => intro _; exact .nilp
  | ptr id off e h => intro hc; cases hc with
    | loc _ h' => cases h'
    | ptr _ _ hi => exact .ptr id off e (below_lt hi h)
  | nils => intro _; exact .nils
  | slc id off len c cap o e h hl hc ho ht => intro hcl; cases hcl with
    | loc _ h' => cases h'
    | slc _ _ _ _ hi => exact .slc id off len c cap o e (below_lt hi h) hl hc ho ht
  | nilf => intro _; exact .nilf
  | nili => intro _; exact .nili
  | func f fi fi' ca ca' h1 h2 h3 h4 i3 i4 => intro hc; cases hc with
    | loc _ h' => cases h'
    | func _ _ _ g1 g2 => exact .func f fi fi' ca ca' h1 h2 (fun i x y hx hy => i3 i x y hx hy (g1 i x hx)) fun i x y hx hy => i4 i x y hx hy (g2 i x hx)
  | agg xs ys h h1 hh ih => intro hc; cases hc with
    | loc _ h' => cases h'
    | agg _ g => exact .agg xs ys h h1 fun i x y hx hy => ih i x y hx hy (g i x hx)
  | tup xs ys h hh ih => intro hc; cases hc with
    | loc _ h' => cases h'
    | tup _ g => exact .tup xs ys h fun i x y hx hy => ih i x y hx hy (g i x hx)

theorem Cl.mono {k n : Nat} (hk : k ≤ n) {v : Value} (h : Cl k v) : Cl n v := by
  induction h with
  | loc v h => exact .loc v h
  | bool b => exact .bool b
  | int q n => exact .int q n
  | str s => exact .str s
  | nilp => exact .nilp
  | ptr id off h => exact .ptr id off (by omega)
  | nils => exact .nils
  | slc id off len c h => exact .slc id off len c (by omega)
  | nilf => exact .nilf
  | nili => exact .nili
  | func f fi ca _ _ i1 i2 => exact .func f fi ca i1 i2
  | agg xs _ ih => exact .agg xs ih
  | tup xs _ ih => exact .tup xs ih

theorem Cl.of_flat {k : Nat} {v : Value} (h : flatB v = true) : Cl k v :=
  V.cl (m := fun _ => none) (fun _ _ h => by cases h) (V.of_flat h)

theorem Cl.of_flat0 {k : Nat} {v : Value} (h : flat0 v = true) : Cl k v :=
  V.cl (m := fun _ => none) (fun _ _ h => by cases h) (V.of_flat0 h)

theorem Cl.undef (k : Nat) : Cl k undef := .tup _ fun i x h => by simp at h

theorem Cl.cells {k : Nat} {v : Value} (h : Cl k v) (hl : isLoc v = false) : ∀ c ∈ v.cells.toList, Cl k c := by
  cases h with
  | agg xs h => intro c hc; exact let ⟨i, hi⟩ := List.getElem?_of_mem hc; h i c (by simpa [Value.cells] using hi)
  | loc v h => rw [hl] at h; cases h
  | tup xs h => intro c hc; simp [Value.cells] at hc; subst hc; exact .tup xs h
  | bool b => intro c hc; simp [Value.cells] at hc; subst hc; exact .bool b
  | int q n => intro c hc; simp [Value.cells] at hc; subst hc; exact .int q n
  | str s => intro c hc; simp [Value.cells] at hc; subst hc; exact .str s
  | nilp => intro c hc; simp [Value.cells] at hc; subst hc; exact .nilp
  | ptr id off h => intro c hc; simp [Value.cells] at hc; subst hc; exact .ptr id off h
  | nils => intro c hc; simp [Value.cells] at hc; subst hc; exact .nils
  | slc id off len c' h => intro c hc; simp [Value.cells] at hc; subst hc; exact .slc id off len c' h
  | nilf => intro c hc; simp [Value.cells] at hc; subst hc; exact .nilf
  | nili => intro c hc; simp [Value.cells] at hc; subst hc; exact .nili
  | func f fi ca h1 h2 => intro c hc; simp [Value.cells] at hc; subst hc; exact .func f fi ca h1 h2

theorem window_sub {l r : List Value} {off n : Nat} (h : window l off n = some r) : ∀ c ∈ r, c ∈ l := by
  unfold window at h
  split at h
  · cases h
    intro c hc
    exact List.mem_of_mem_drop (List.mem_of_mem_take hc)
  · cases h

theorem splice_sub (l : List Value) (off : Nat) (vs : List Value) : ∀ c ∈ splice l off vs, c ∈ l ∨ c ∈ vs := by
  intro c hc
  unfold splice at hc
  simp only [List.mem_append] at hc
  rcases hc with (hc | hc) | hc
  · exact .inl (List.mem_of_mem_take hc)
  · exact .inr hc
  · exact .inl (List.mem_of_mem_drop hc)

theorem Cl.mk {k : Nat} {agg : Bool} {l : List Value} {v : Value} (h : Abs.mk agg l = some v) (hl : ∀ c ∈ l, Cl k c) : Cl k v := by
  unfold Abs.mk at h
  split at h
  · cases h
    exact .agg _ fun i x hx => hl x (List.mem_of_getElem? (by simpa using hx))
  · split at h
    · cases h
      exact hl _ (List.mem_cons_self ..)
    · cases h

theorem Cl.bindMk {k : Nat} {agg : Bool} {l : List Value} {off n : Nat} {v : Value} (h : (window l off n).bind (Abs.mk agg) = some v) (hl : ∀ c ∈ l, Cl k c) : Cl k v := by
  cases hw : window l off n with
  | none => rw [hw] at h; cases h
  | some r => rw [hw] at h; exact Cl.mk h fun c hc => hl c (window_sub hw c hc)

theorem Cl.fillL {k : Nat} (fs : List (Nat × Nat)) : ∀ (parts : List (Nat × Value)) (cells out : List Value), Abs.fillL fs cells parts = some out → (∀ c ∈ cells, Cl k c) → (∀ p ∈ parts, Cl k p.2) → ∀ c ∈ out, Cl k c
  | [], cells, out, h, h1, h2 => by cases h; exact h1
  | (i, v) :: rest, cells, out, h, h1, h2 => by
    unfold Abs.fillL at h
    split at h
    · split at h
      · rename_i hc
        refine Cl.fillL fs rest _ out h ?_ fun p hp => h2 p (List.mem_cons_of_mem _ hp)
        intro c hcm
        rcases splice_sub _ _ _ c hcm with hcm | hcm
        · exact h1 c hcm
        · exact Cl.cells (h2 (i, v) (List.mem_cons_self ..)) (storable_isLoc hc.2.2) c hcm
      · cases h
    · cases h

theorem binInt_flat {op : BinOp} {k : IntKind} {a b : Int} {v : Value} (h : binInt op k a b = some v) : flat0 v = true := by
  unfold binInt at h
  split at h <;> first | (cases h; rfl) | (split at h <;> cases h <;> rfl) | cases h

theorem bin_flat {P : Program} {op : BinOp} {t : TypeId} {x y v : Value} (h : bin P op t x y = some v) : flat0 v = true := by
  unfold bin at h
  split at h
  · unfold shift at h
    split at h
    · cases h
    · split at h <;> cases h <;> rfl
  · unfold shift at h
    split at h
    · cases h
    · split at h <;> cases h <;> rfl
  · split at h
    · exact binInt_flat h
    · cases h
  · unfold binStr at h
    split at h <;> first | (cases h; rfl) | (split at h <;> cases h <;> rfl) | cases h
  · split at h
    · cases h; rfl
    · split at h
      · cases h
      · cases he : eqIn P eqDepth t x y <;> rw [he] at h <;> cases h <;> rfl
  · split at h
    · cases h; rfl
    · split at h
      · cases h
      · cases he : eqIn P eqDepth t x y <;> rw [he] at h <;> cases h <;> rfl
  · cases h

theorem un_flat0 {op : UnOp} {x v : Value} (h : un op x = some v) : flat0 v = true := by
  unfold un at h
  split at h <;> cases h <;> rfl

theorem val_some {s : St} {dst : Option Tmp} {x : Option Value} {r : OpR} (h : val s dst x = some r) : ∃ v, x = some v ∧ r = .done (s.put dst v) := by
  cases x with
  | none => cases h
  | some v => cases h; exact ⟨v, rfl, rfl⟩

theorem valH_some {s : St} {dst : Option Tmp} {x : Option (Value × Heap)} {r : OpR} (h : valH s dst x = some r) : ∃ v H, x = some (v, H) ∧ r = .done ({ s with heap := H }.put dst v) := by
  cases x with
  | none => cases h
  | some q => cases h; exact ⟨q.1, q.2, rfl, rfl⟩

theorem pairs_ev {s u : St} (ps : Array (Nat × Operand)) (h : ∀ x ∈ (ps.toList.map (·.2)).toArray, u.ev x = s.ev x) : (ps.toList.map fun p => (p.1, u.ev p.2)) = ps.toList.map fun p => (p.1, s.ev p.2) :=
  List.map_congr_left fun p hp => by rw [h p.2 (by simp only [List.mem_toArray, List.mem_map]; exact ⟨p, hp, rfl⟩)]

/-- Operations that look at their operands alone. -/
theorem aop_quiet0 {P : Program} {ls : List Nat} {o : Oper} {s : St} {r : OpR} (hq : quiet o.op = true) (h : aop P ls o s = some r) :
    ∃ v, r = .done (s.put o.dst v) ∧ (∀ u : St, (∀ x ∈ o.op.operands, u.ev x = s.ev x) → aop P ls o u = some (.done (u.put o.dst v))) ∧
      ∀ k, (∀ x ∈ o.op.operands, Cl k (s.ev x)) → Cl k v := by
  unfold aop at h ⊢
  cases ho : o.op with
  | move x =>
    rw [ho] at h; simp only at h ⊢
    obtain ⟨v, h1, rfl⟩ := val_some h
    cases h1
    exact ⟨_, rfl, fun u hu => by rw [hu x (by simp [Op.operands])]; rfl, fun k hk => hk x (by simp [Op.operands])⟩
  | assign x =>
    rw [ho] at h; simp only at h ⊢
    obtain ⟨v, h1, rfl⟩ := val_some h
    cases h1
    exact ⟨_, rfl, fun u hu => by rw [hu x (by simp [Op.operands])]; rfl, fun k hk => hk x (by simp [Op.operands])⟩
  | pick c a b =>
    rw [ho] at h; simp only at h ⊢
    split at h
    · rename_i t hc
      obtain ⟨v, h1, rfl⟩ := val_some h
      cases h1
      refine ⟨_, rfl, fun u hu => ?_, fun k hk => ?_⟩
      · rw [hu c (by simp [Op.operands]), hc, hu a (by simp [Op.operands]), hu b (by simp [Op.operands])]; rfl
      · cases t
        · exact hk b (by simp [Op.operands])
        · exact hk a (by simp [Op.operands])
    · cases h
  | build t ps =>
    rw [ho] at h; simp only at h ⊢
    obtain ⟨v, h1, rfl⟩ := val_some h
    refine ⟨v, rfl, fun u hu => ?_, fun k hk => ?_⟩
    · rw [pairs_ev ps (by simpa [Op.operands] using hu), h1]; rfl
    · unfold build at h1
      split at h1
      · rename_i sz ag z fs hti
        cases hf : fillL fs z (ps.toList.map fun p => (p.1, s.ev p.2)) with
        | none => rw [hf] at h1; cases h1
        | some l =>
          rw [hf] at h1
          cases h1
          obtain ⟨i, d, zz, e1, e2, e3, e4, e5, e6, e7, e8⟩ := TI_spec hti
          have hl := Cl.fillL (k := k) fs _ _ _ hf (fun c hc => Cl.of_flat0 (e8 c (by rw [← e6]; exact hc))) (by
            intro p hp
            obtain ⟨q, hq, rfl⟩ := List.mem_map.1 hp
            exact hk q.2 (by simp only [Op.operands, List.mem_toArray, List.mem_map]; exact ⟨q, hq, rfl⟩))
          exact .agg _ fun i x hx => hl x (List.mem_of_getElem? (by simpa using hx))
      · cases h1
  | nilCheck x =>
    rw [ho] at h; simp only at h ⊢
    split at h
    · rename_i hn
      split at h
      · cases h
      · rename_i v' hv
        obtain ⟨v, h1, rfl⟩ := val_some h
        cases h1
        refine ⟨_, rfl, fun u hu => ?_, fun k hk => hk x (by simp [Op.operands])⟩
        rw [hu x (by simp [Op.operands]), hn]
        simp only
        rfl
    · cases h
  | binOp op t x y p =>
    rw [ho] at h; simp only at h ⊢
    obtain ⟨v, h1, rfl⟩ := val_some h
    exact ⟨v, rfl, fun u hu => by rw [hu x (by simp [Op.operands]), hu y (by simp [Op.operands]), h1]; rfl, fun k _ => Cl.of_flat0 (bin_flat h1)⟩
  | unOp op t x =>
    rw [ho] at h; simp only at h ⊢
    obtain ⟨v, h1, rfl⟩ := val_some h
    exact ⟨v, rfl, fun u hu => by rw [hu x (by simp [Op.operands]), h1]; rfl, fun k _ => Cl.of_flat0 (un_flat0 h1)⟩
  | makeFunc g fi ca =>
    rw [ho] at h; simp only at h ⊢
    cases g with
    | func f =>
      simp only at h ⊢
      split at h
      · rename_i hall
        obtain ⟨v, h1, rfl⟩ := val_some h
        cases h1
        refine ⟨_, rfl, fun u hu => ?_, fun k hk => ?_⟩
        · have e1 : fi.map u.ev = fi.map s.ev := Array.map_congr_left fun x hx => hu x (by simp [Op.operands, hx])
          have e2 : ca.map u.ev = ca.map s.ev := Array.map_congr_left fun x hx => hu x (by simp [Op.operands, hx])
          rw [e1, e2, if_pos]
          · rfl
          · rw [List.all_eq_true] at hall ⊢
            intro x hx
            rw [hu x (by simpa [Op.operands] using hx)]
            exact hall x hx
        · refine .func f _ _ (fun i x hx => ?_) fun i x hx => ?_
          · rw [Array.getElem?_map] at hx
            cases hq : fi[i]? with
            | none => rw [hq] at hx; cases hx
            | some q => rw [hq] at hx; cases hx; exact hk q (by simp [Op.operands, Array.mem_of_getElem? hq])
          · rw [Array.getElem?_map] at hx
            cases hq : ca[i]? with
            | none => rw [hq] at hx; cases hx
            | some q => rw [hq] at hx; cases hx; exact hk q (by simp [Op.operands, Array.mem_of_getElem? hq])
      · cases h
    | _ => cases h
  | fieldAddr t x f =>
    rw [ho] at h; simp only at h ⊢
    obtain ⟨v, h1, rfl⟩ := val_some h
    refine ⟨v, rfl, fun u hu => by rw [hu x (by simp [Op.operands]), h1]; rfl, fun k hk => ?_⟩
    have hx := hk x (by simp [Op.operands])
    unfold fieldAddr at h1
    split at h1
    · split at h1
      · split at h1
        · cases h1
        · unfold atOff at h1
          split at h1
          · cases h1; exact .loc _ rfl
          · rename_i hv
            cases h1
            rw [hv] at hx
            cases hx with
            | loc _ h' => cases h'
            | ptr _ _ hi => exact .ptr _ _ hi
          · cases h1
      · cases h1
    · cases h1
  | field t x f =>
    rw [ho] at h; simp only at h ⊢
    obtain ⟨v, h1, rfl⟩ := val_some h
    refine ⟨v, rfl, fun u hu => by rw [hu x (by simp [Op.operands]), h1]; rfl, fun k hk => ?_⟩
    have hx := hk x (by simp [Op.operands])
    unfold fieldOf at h1
    split at h1
    · rename_i fs xs hd hv
      rw [hv] at hx
      split at h1
      · split at h1
        · refine Cl.bindMk h1 ?_
          cases hx with
          | loc _ h' => cases h'
          | agg _ g => intro c hc; exact let ⟨i, hi⟩ := List.getElem?_of_mem hc; g i c (by simpa using hi)
        · cases h1
      · cases h1
    · cases h1
  | indexAddr t x i =>
    rw [ho] at h; simp only at h ⊢
    obtain ⟨v, h1, rfl⟩ := val_some h
    refine ⟨v, rfl, fun u hu => by rw [hu x (by simp [Op.operands]), hu i (by simp [Op.operands]), h1]; rfl, fun k hk => ?_⟩
    have hx := hk x (by simp [Op.operands])
    unfold indexAddr at h1
    split at h1
    · rename_i hv hi
      split at h1
      · cases h1
        rw [hv] at hx
        cases hx with
        | loc _ h' => cases h'
        | slc _ _ _ _ hi => exact .ptr _ _ hi
      · cases h1
    · cases h1
  | index t x i =>
    rw [ho] at h; simp only at h ⊢
    obtain ⟨v, h1, rfl⟩ := val_some h
    refine ⟨v, rfl, fun u hu => by rw [hu x (by simp [Op.operands]), hu i (by simp [Op.operands]), h1]; rfl, fun k hk => ?_⟩
    unfold index at h1
    split at h1
    · split at h1
      · rename_i b q n _ _ _ _
        cases hb : b[n.toNat]? with
        | none => rw [hb] at h1; cases h1
        | some c => rw [hb] at h1; cases h1; exact .int _ _
      · cases h1
    · cases h1
  | extract x i =>
    rw [ho] at h; simp only at h ⊢
    split at h
    · rename_i vs hv
      obtain ⟨v, h1, rfl⟩ := val_some h
      refine ⟨v, rfl, fun u hu => by rw [hu x (by simp [Op.operands]), hv]; simp only; rw [h1]; rfl, fun k hk => ?_⟩
      have hx := hk x (by simp [Op.operands])
      rw [hv] at hx
      cases hx with
      | loc _ h' => cases h'
      | tup _ g => exact g i v h1
    · cases h
  | _ => rw [ho] at hq; cases hq

/-! ### Those that read and change the heap -/

theorem ev_noloc_of_cells {s : St} {a : Value} {n : Nat} {l : List Value} (h : s.cellsAt a n = some l) (hl : locOf a = none) : isLoc a = false ∧ ∀ u : St, u.heap = s.heap → u.cellsAt a n = some l := by
  unfold St.cellsAt at h ⊢
  unfold locOf at hl
  split at h
  · cases hl
  · exact ⟨rfl, fun u hu => by simp only [hu]; exact h⟩
  · cases h

theorem inOrder_noloc {es : Nat} : ∀ (parts : List (Nat × Value)) (k : Nat) (l : List Value), inOrder es k parts = some l → ∀ p ∈ parts, isLoc p.2 = false
  | [], _, _, _, p, hp => by simp at hp
  | (i, v) :: rest, k, l, h, p, hp => by
    unfold inOrder at h
    split at h
    · rename_i hc
      cases hr : inOrder es (k + 1) rest with
      | none => rw [hr] at h; cases h
      | some l' =>
        rcases List.mem_cons.1 hp with rfl | hp
        · exact storable_isLoc hc.2.2
        · exact inOrder_noloc rest (k + 1) l' hr p hp
    · cases h

theorem minmax_noloc (mn : Bool) : ∀ (l : List Value) (x v : Value), minmax mn x l = some v → isLoc x = false ∧ ∀ y ∈ l, isLoc y = false
  | [], x, v, h => by
    cases x <;> first | exact ⟨rfl, fun y hy => by simp at hy⟩ | cases h
  | y :: l, x, v, h => by
    cases x <;> try (cases h; done)
    cases y <;> try (cases h; done)
    unfold minmax at h
    split at h
    · obtain ⟨_, h2⟩ := minmax_noloc mn l _ v h
      exact ⟨rfl, fun y hy => (List.mem_cons.1 hy).elim (fun e => by rw [e]; rfl) (h2 y)⟩
    · cases h

/-- What holds of an operation that has to do with the heap. -/
def HeapOp (P : Program) (ls : List Nat) (o : Oper) (s : St) (r : OpR) : Prop :=
  (∀ x ∈ o.op.operands, isLoc (s.ev x) = false) ∧
  ∀ u : St, u.heap = s.heap → (∀ x ∈ o.op.operands, u.ev x = s.ev x) →
    match r with
    | .done s' => ∃ v H', s' = { s with heap := H' }.put o.dst v ∧ aop P ls o u = some (.done ({ u with heap := H' }.put o.dst v))
    | .call f args => aop P ls o u = some (.call f args)

theorem builtin_heap {P : Program} {s : St} {dst : Option Tmp} {b : Builtin} {ts : List TypeId} {l : List Value} {r : OpR} (h : builtin P s dst b ts l = some r) :
    (∀ x ∈ l, isLoc x = false) ∧ ∃ v H', r = .done ({ s with heap := H' }.put dst v) ∧ ∀ u : St, u.heap = s.heap → builtin P u dst b ts l = some (.done ({ u with heap := H' }.put dst v)) := by
  unfold builtin at h ⊢
  split at h
  · rename_i t tx x y
    obtain ⟨v, H', h1, rfl⟩ := valH_some h
    refine ⟨?_, v, H', rfl, fun u hu => ?_⟩
    · have hx : isLoc x = false ∧ isLoc y = false := by
        unfold append at h1
        split at h1
        · split at h1
          · cases h1
          · split at h1
            · rename_i n news hn
              have hy : isLoc y = false := by
                unfold newsOf at hn
                split at hn <;> first | rfl | cases hn
              split at h1
              · exact ⟨rfl, hy⟩
              · exact ⟨rfl, hy⟩
              · cases h1
            · cases h1
        · cases h1
      intro z hz
      simp only [List.mem_cons, List.not_mem_nil, or_false] at hz
      rcases hz with rfl | rfl
      · exact hx.1
      · exact hx.2
    · have e : append P u t tx x y = append P s t tx x y := by
        unfold append newsOf
        rw [hu]
      simp only [e, h1]
      rfl
  · rename_i t tx x y
    obtain ⟨v, H', h1, rfl⟩ := valH_some h
    refine ⟨?_, v, H', rfl, fun u hu => ?_⟩
    · have hx : isLoc x = false ∧ isLoc y = false := by
        unfold copy at h1
        split at h1
        · rename_i e1 e2
          unfold sliceLen at e1 e2
          refine ⟨?_, ?_⟩
          · split at e1 <;> first | rfl | cases e1
          · split at e2 <;> first | rfl | cases e2
        · cases h1
      intro z hz
      simp only [List.mem_cons, List.not_mem_nil, or_false] at hz
      rcases hz with rfl | rfl
      · exact hx.1
      · exact hx.2
    · have e : copy P u t x y = copy P s t x y := by
        unfold copy
        rw [hu]
      simp only [e, h1]
      rfl
  · rename_i t x
    obtain ⟨v, h1, rfl⟩ := val_some h
    refine ⟨?_, v, s.heap, rfl, fun u hu => ?_⟩
    · intro z hz
      simp only [List.mem_cons, List.not_mem_nil, or_false] at hz
      subst hz
      unfold len at h1
      split at h1 <;> first | (rename_i e; rw [e]; rfl) | rfl | cases h1
    · simp only [h1]
      rw [← hu]
      rfl
  · rename_i x l
    obtain ⟨v, h1, rfl⟩ := val_some h
    obtain ⟨g1, g2⟩ := minmax_noloc _ _ _ _ h1
    refine ⟨fun z hz => (List.mem_cons.1 hz).elim (fun e => by rw [e]; exact g1) (g2 z), v, s.heap, rfl, fun u hu => ?_⟩
    simp only [h1]
    rw [← hu]
    rfl
  · rename_i x l
    obtain ⟨v, h1, rfl⟩ := val_some h
    obtain ⟨g1, g2⟩ := minmax_noloc _ _ _ _ h1
    refine ⟨fun z hz => (List.mem_cons.1 hz).elim (fun e => by rw [e]; exact g1) (g2 z), v, s.heap, rfl, fun u hu => ?_⟩
    simp only [h1]
    rw [← hu]
    rfl
  · cases h

theorem bound_noloc {d : Nat} {x : Option Value} {n : Nat} (h : bound d x = some n) : ∀ v, x = some v → isLoc v = false := by
  intro v hv
  subst hv
  unfold bound at h
  cases v <;> first | rfl | cases h

theorem slice_noloc {P : Program} {H : Heap} {t : TypeId} {x : Value} {lo hi mx : Option Value} {v : Value} (h : slice P H t x lo hi mx = some v) :
    isLoc x = false ∧ (∀ v, lo = some v → isLoc v = false) ∧ (∀ v, hi = some v → isLoc v = false) ∧ ∀ v, mx = some v → isLoc v = false := by
  unfold slice at h
  split at h
  · split at h
    · rename_i h1 h2
      exact ⟨rfl, bound_noloc h1, bound_noloc h2, fun v hv => by cases hv⟩
    · cases h
  · split at h
    · split at h
      · rename_i h1 h2
        exact ⟨rfl, bound_noloc h1, bound_noloc h2, fun v hv => by cases hv⟩
      · cases h
    · cases h
  · split at h
    · split at h
      · split at h
        · rename_i h1 h2
          split at h
          · split at h
            · exact ⟨rfl, bound_noloc h1, bound_noloc h2, fun v hv => by cases hv⟩
            · rename_i mv
              split at h
              · rename_i h3
                exact ⟨rfl, bound_noloc h1, bound_noloc h2, bound_noloc h3⟩
              · cases h
          · cases h
        · cases h
      · cases h
    · cases h
  · cases h

theorem bound_cl {k : Nat} {b : ByteArray} : Cl k (.string b) := Cl.of_flat0 rfl
/-- The same at a state. -/
theorem aop_quiet {P : Program} {ls : List Nat} {o : Oper} {s : St} {r : OpR} (hq : quietAt s o.op = true) (h : aop P ls o s = some r) :
    ∃ v, r = .done (s.put o.dst v) ∧ (∀ u : St, (∀ x ∈ o.op.operands, u.ev x = s.ev x) → aop P ls o u = some (.done (u.put o.dst v))) ∧
      ∀ k, (∀ x ∈ o.op.operands, Cl k (s.ev x)) → Cl k v := by
  by_cases h0 : quiet o.op = true
  · exact aop_quiet0 h0 h
  unfold aop at h ⊢
  cases ho : o.op with
  | slice t x lo hi mx =>
    rw [ho] at h hq; simp only at h ⊢
    obtain ⟨v, h1, rfl⟩ := val_some h
    have hx : isStrV (s.ev x) = true := hq
    cases hv : s.ev x with
    | string b =>
      rw [hv] at h1
      refine ⟨v, rfl, fun u hu => ?_, fun k _ => ?_⟩
      · have ex : u.ev x = s.ev x := hu x (by simp [Op.operands])
        have eo : ∀ q : Option Operand, (∀ y, q = some y → u.ev y = s.ev y) → q.map u.ev = q.map s.ev := fun q hq => by
          cases q with
          | none => rfl
          | some y => simp [hq y rfl]
        rw [ex, hv, eo lo fun y hy => hu y (by simp [Op.operands, hy]), eo hi fun y hy => hu y (by simp [Op.operands, hy]), eo mx fun y hy => hu y (by simp [Op.operands, hy])]
        have e : slice P u.heap t (.string b) (lo.map s.ev) (hi.map s.ev) (mx.map s.ev) = slice P s.heap t (.string b) (lo.map s.ev) (hi.map s.ev) (mx.map s.ev) := rfl
        rw [e, h1]
        rfl
      · unfold slice at h1
        simp only at h1
        split at h1
        · split at h1
          · cases h1; exact bound_cl
          · cases h1
        · cases h1
    | _ => rw [hv] at hx; cases hx
  | convert a b x =>
    rw [ho] at h hq; simp only at h ⊢
    obtain ⟨v, H', h1, rfl⟩ := valH_some h
    have hx : isIntV (s.ev x) = true := hq
    cases hv : s.ev x with
    | int kd n =>
      rw [hv] at h1
      have key : H' = s.heap ∧ (∀ u : St, convert P u a b (.int kd n) = some (v, u.heap)) ∧ flat0 v = true := by
        unfold convert at h1 ⊢
        split at h1
        · cases h1; exact ⟨rfl, fun u => rfl, rfl⟩
        · cases h1; exact ⟨rfl, fun u => rfl, rfl⟩
        · rename_i e; cases e
        · rename_i e; cases e
        · cases h1
      obtain ⟨rfl, k2, k3⟩ := key
      refine ⟨v, rfl, fun u hu => ?_, fun k _ => Cl.of_flat0 k3⟩
      rw [hu x (by simp [Op.operands]), hv, k2 u]
      rfl
    | _ => rw [hv] at hx; cases hx
  | _ =>
    rw [ho] at hq h0
    exact absurd hq h0

theorem aop_heap {P : Program} {ls : List Nat} {o : Oper} {s : St} {r : OpR} (hqs : quietAt s o.op = false) (hf : ∀ s', foot ls o s s' = some .ext ∨ foot ls o s s' = some .mut ∨ foot ls o s s' = none)
    (h : aop P ls o s = some r) : HeapOp P ls o s r := by
  unfold HeapOp
  unfold aop at h ⊢
  unfold foot at hf
  rw [hqs] at hf
  have hq := quietAt_no hqs
  cases ho : o.op with
  | alloc t =>
    rw [ho] at h hf; simp only [Bool.false_eq_true, if_false] at h hf ⊢
    split at h
    · rename_i ti hti
      cases h
      split at hf
      · have := hf s; simp at this
      · rename_i hl
        refine ⟨fun x hx => by simp [Op.operands] at hx, fun u hu _ => ⟨.pointer (some ⟨s.heap.size, 0, none⟩), s.heap.push ti.zero 0, ?_, ?_⟩⟩
        · unfold St.make
          rw [if_neg hl]
        · try simp only [hti]
          unfold St.make
          rw [if_neg hl, hu]
    · cases h
  | box t x =>
    rw [ho] at h hf; simp only [Bool.false_eq_true, if_false] at h hf ⊢
    split at h
    · rename_i ti hti
      split at h
      · rename_i hst
        cases h
        split at hf
        · have := hf s; simp at this
        · rename_i hl
          refine ⟨fun y hy => by simp [Op.operands] at hy; subst hy; exact storable_isLoc hst, fun u hu hx => ⟨.pointer (some ⟨s.heap.size, 0, none⟩), s.heap.push (s.ev x).cells.toList 0, ?_, ?_⟩⟩
          · unfold St.make
            rw [if_neg hl]
          · simp only [hti, hx x (by simp [Op.operands]), hst, if_true]
            unfold St.make
            rw [if_neg hl, hu]
      · cases h
    · cases h
  | buildSlice t n ps =>
    rw [ho] at h; simp only at h ⊢
    obtain ⟨v, H', h1, rfl⟩ := valH_some h
    refine ⟨?_, fun u hu hx => ⟨v, H', rfl, ?_⟩⟩
    · unfold buildSlice at h1
      split at h1
      · split at h1
        · rename_i es _ _ _ _
          cases hi : inOrder _ 0 (ps.toList.map fun p => (p.1, s.ev p.2)) with
          | none => rw [hi] at h1; cases h1
          | some l =>
            intro x hx
            simp only [Op.operands, List.mem_toArray, List.mem_map] at hx
            obtain ⟨q, hq', rfl⟩ := hx
            exact inOrder_noloc _ _ _ hi (q.1, s.ev q.2) (List.mem_map.2 ⟨q, hq', rfl⟩)
        · cases h1
      · cases h1
    · rw [pairs_ev ps (by simpa [Op.operands] using hx)]
      have e : buildSlice P u t n (ps.toList.map fun p => (p.1, s.ev p.2)) = some (v, H') := by
        rw [← h1]
        unfold buildSlice
        rw [hu]
      rw [e]
      rfl
  | load t a =>
    rw [ho] at h hf; simp only [Bool.false_eq_true, if_false] at h hf ⊢
    split at h
    · rename_i ti hti
      obtain ⟨v, h1, rfl⟩ := val_some h
      cases hc : s.cellsAt (s.ev a) ti.size with
      | none => rw [hc] at h1; cases h1
      | some l =>
        have hl : locOf (s.ev a) = none := by
          cases hq' : locOf (s.ev a) with
          | none => rfl
          | some q => rw [hq'] at hf; have := hf s; simp at this
        obtain ⟨g1, g2⟩ := ev_noloc_of_cells hc hl
        refine ⟨fun y hy => by simp [Op.operands] at hy; subst hy; exact g1, fun u hu hx => ⟨v, s.heap, rfl, ?_⟩⟩
        simp only [hti, hx a (by simp [Op.operands]), g2 u hu]
        rw [hc] at h1
        rw [h1, ← hu]
        rfl
    · cases h
  | store t a x =>
    rw [ho] at h hf; simp only [Bool.false_eq_true, if_false] at h hf ⊢
    split at h
    · rename_i ti hti
      split at h
      · rename_i hc
        have hl : locOf (s.ev a) = none := by
          cases hq' : locOf (s.ev a) with
          | none => rfl
          | some q => rw [hq'] at hf; have := hf s; simp at this
        cases hst : s.storeAt (s.ev a) (s.ev x).cells.toList with
        | none => rw [hst] at h; cases h
        | some s1 =>
          rw [hst] at h
          cases h
          have key : isLoc (s.ev a) = false ∧ ∃ H', s1 = { s with heap := H' } ∧ ∀ u : St, u.heap = s.heap → u.storeAt (s.ev a) (s.ev x).cells.toList = some { u with heap := H' } := by
            generalize s.ev a = va at hl hst ⊢
            unfold St.storeAt at hst ⊢
            unfold locOf at hl
            split at hst
            · cases hl
            · split at hst
              · rename_i hcc
                cases hst
                refine ⟨rfl, _, rfl, fun u hu => ?_⟩
                rw [hu, if_pos hcc]
              · cases hst
            · cases hst
          obtain ⟨k1, H', k2, k3⟩ := key
          refine ⟨fun y hy => ?_, fun u hu hx => ⟨undef, H', by rw [k2], ?_⟩⟩
          · simp [Op.operands] at hy
            rcases hy with rfl | rfl
            · exact k1
            · exact storable_isLoc hc.2.2
          · simp only [hti, hx a (by simp [Op.operands]), hx x (by simp [Op.operands]), if_pos hc, k3 u hu]
            rfl
      · cases h
    · cases h
  | convert a b x =>
    rw [ho] at h; simp only at h ⊢
    obtain ⟨v, H', h1, rfl⟩ := valH_some h
    refine ⟨?_, fun u hu hx => ⟨v, H', rfl, ?_⟩⟩
    · intro y hy
      simp [Op.operands] at hy
      subst hy
      unfold convert at h1
      split at h1
      · rename_i e; rw [e]; rfl
      · rename_i e; rw [e]; rfl
      · rename_i e; rw [e]; rfl
      · rename_i e; rw [e]; rfl
      · cases h1
    · rw [hx x (by simp [Op.operands])]
      have e : convert P u a b (s.ev x) = some (v, H') := by
        rw [← h1]
        unfold convert
        rw [hu]
      rw [e]
      rfl
  | makeSlice t l c =>
    rw [ho] at h; simp only at h ⊢
    obtain ⟨v, H', h1, rfl⟩ := valH_some h
    refine ⟨?_, fun u hu hx => ⟨v, H', rfl, ?_⟩⟩
    · intro y hy
      simp [Op.operands] at hy
      unfold makeSlice at h1
      split at h1
      · rename_i e1 e2
        rcases hy with rfl | rfl
        · rw [e1]; rfl
        · rw [e2]; rfl
      · cases h1
    · rw [hx l (by simp [Op.operands]), hx c (by simp [Op.operands])]
      have e : makeSlice P u t (s.ev l) (s.ev c) = some (v, H') := by
        rw [← h1]
        unfold makeSlice
        rw [hu]
      rw [e]
      rfl
  | slice t x lo hi mx =>
    rw [ho] at h; simp only at h ⊢
    obtain ⟨v, h1, rfl⟩ := val_some h
    obtain ⟨g1, g2, g3, g4⟩ := slice_noloc h1
    refine ⟨?_, fun u hu hx => ⟨v, s.heap, rfl, ?_⟩⟩
    · intro y hy
      simp only [Op.operands, Array.mem_append, Array.mem_singleton, Option.mem_toArray] at hy
      rcases hy with ((rfl | hy) | hy) | hy
      · exact g1
      · exact g2 _ (by rw [hy]; rfl)
      · exact g3 _ (by rw [hy]; rfl)
      · exact g4 _ (by rw [hy]; rfl)
    · have ex : u.ev x = s.ev x := hx x (by simp [Op.operands])
      have eo : ∀ q : Option Operand, (∀ y, q = some y → u.ev y = s.ev y) → q.map u.ev = q.map s.ev := fun q hq => by
        cases q with
        | none => rfl
        | some y => simp [hq y rfl]
      rw [ex, eo lo fun y hy => hx y (by simp [Op.operands, hy]), eo hi fun y hy => hx y (by simp [Op.operands, hy]), eo mx fun y hy => hx y (by simp [Op.operands, hy]), hu, h1, ← hu]
      rfl
  | call c =>
    rw [ho] at h; simp only at h ⊢
    obtain ⟨cal, args, ts⟩ := c
    cases cal with
    | builtin b =>
      simp only at h ⊢
      obtain ⟨k1, v, H', rfl, k2⟩ := builtin_heap h
      refine ⟨fun x hx => ?_, fun u hu hx => ⟨v, H', rfl, ?_⟩⟩
      · simp only [Op.operands, Call.operands, Array.empty_append] at hx
        exact k1 _ (List.mem_map.2 ⟨x, Array.mem_toList_iff.2 hx, rfl⟩)
      · have e : args.toList.map u.ev = args.toList.map s.ev := List.map_congr_left fun x hx' => hx x (by simp only [Op.operands, Call.operands, Array.empty_append]; exact Array.mem_toList_iff.1 hx')
        rw [e]
        exact k2 u hu
    | value f =>
      simp only at h ⊢
      split at h
      · rename_i g fi ca hv
        split at h
        · rename_i hall
          cases h
          refine ⟨fun x hx => ?_, fun u hu hx => ?_⟩
          · simp only [Op.operands, Call.operands, Array.mem_append, Array.mem_singleton] at hx
            rcases hx with rfl | hx
            · rw [hv]; rfl
            · rw [List.all_eq_true] at hall
              simpa using hall x (Array.mem_toList_iff.2 hx)
          · have e : args.map u.ev = args.map s.ev := Array.map_congr_left fun x hx' => hx x (by simp [Op.operands, Call.operands, hx'])
            have e2 : (args.toList.all fun x => !isLoc (u.ev x)) = true := by
              rw [List.all_eq_true] at hall ⊢
              intro x hx'
              rw [hx x (by simp only [Op.operands, Call.operands, Array.mem_append]; exact .inr (Array.mem_toList_iff.1 hx'))]
              exact hall x hx'
            rw [hx f (by simp [Op.operands, Call.operands]), hv]
            simp only
            rw [if_pos e2, e]
        · cases h
      · cases h
    | _ => cases h
  | _ => rw [ho] at h hq; first | (cases hq; done) | (cases h; done)

end Go.Abs
