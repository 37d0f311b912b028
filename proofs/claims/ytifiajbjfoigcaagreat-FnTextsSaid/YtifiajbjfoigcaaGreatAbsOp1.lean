/-
  THE ABSTRACT MACHINE AND THE MODEL: each operation that yields a value and leaves memory alone.
-/
import Derived.Test.YtifiajbjfoigcaaGreatAbsStep
namespace Go.Abs
open Go

/-- Of some operands: what they hold goes together. -/
def EvOk (m : Map) (β : LMap) (s : St) (a : Act) (xs : Array Operand) : Prop := ∀ x ∈ xs.toList, VL m β (s.ev x) (a.eval x)

theorem VL.isLoc_or {m : Map} {β : LMap} {v cv : Value} (h : VL m β v cv) : V m v cv ∨ isLoc v = true := by
  rcases h with ⟨l, off, b, rfl, _, _⟩ | rfl | h
  · exact .inr rfl
  · exact .inr rfl
  · exact .inl h

theorem OV_map {m : Map} {β : LMap} {s : St} {a : Act} {x : Option Operand} (h : ∀ y, x = some y → VL m β (s.ev y) (a.eval y)) : OV m (x.map s.ev) (x.map a.eval) := by
  cases x with
  | none => trivial
  | some y => exact (h y rfl).isLoc_or

theorem val_done {s : St} {dst : Option Tmp} {ov : Option Value} {r : OpR} (h : val s dst ov = some r) : ∃ v, ov = some v ∧ r = .done (s.put dst v) := by
  unfold val at h
  split at h
  · cases h; exact ⟨_, rfl, rfl⟩
  · cases h

theorem run_v {P : Program} {s : Sem Value} {v : Value} {w w' : World} (h : s.run P w = .ok v w') : (do pure (.value (← s)) : Sem Next).run P w = .ok (.value v) w' := by
  simp only [Sem.run_bind, h, Result.andThen_ok, Sem.run_pure]

theorem un_flat {op : UnOp} {x v : Value} (h : un op x = some v) : isLoc x = false := by
  unfold un at h
  split at h <;> first | rfl | cases h

theorem nilness_loc {x : Value} {b : Bool} (h : nilness x = some b) : isLoc x = false := by
  unfold nilness at h
  split at h <;> first | rfl | cases h

theorem bin_loc {P : Program} {op : BinOp} {t : TypeId} {x y v : Value} (h : bin P op t x y = some v) : isLoc x = false ∧ isLoc y = false := by
  have eqn : ∀ r, eqNil P t x y = some r → isLoc x = false ∧ isLoc y = false := by
    intro r hr
    unfold eqNil at hr
    split at hr <;> first | contradiction | (constructor <;> first | rfl | exact nilness_loc hr)
  have eqi : ∀ r, eqIn P eqDepth t x y = some r → isLoc x = false ∧ isLoc y = false := by
    intro r hr
    rcases eqIn_shape 5 t x y r hr with ⟨a, b, rfl, rfl⟩ | ⟨k, a, k', b, rfl, rfl⟩ | ⟨a, b, rfl, rfl⟩ | ⟨a, b, rfl, rfl⟩ <;> exact ⟨rfl, rfl⟩
  unfold bin at h
  split at h
  · exact ⟨rfl, rfl⟩
  · exact ⟨rfl, rfl⟩
  · exact ⟨rfl, rfl⟩
  · exact ⟨rfl, rfl⟩
  · split at h
    · rename_i r hr; exact eqn r hr
    · split at h
      · cases h
      · cases he : eqIn P eqDepth t x y with
        | none => rw [he] at h; cases h
        | some r => exact eqi r he
  · split at h
    · rename_i r hr; exact eqn r hr
    · split at h
      · cases h
      · cases he : eqIn P eqDepth t x y with
        | none => rw [he] at h; cases h
        | some r => exact eqi r he
  · cases h

theorem aop_val {P : Program} {ls : List Nat} {o : Oper} {s : St} {r : OpR} (hk : opKind o.op = true) (h : aop P ls o s = some r) :
    ∃ v, r = .done (s.put o.dst v) ∧ ∀ m β a w, EvOk m β s a o.op.operands → ES m s.heap → ∃ cv, (execOp a.eval o).run P w = .ok (.value cv) w ∧ VL m β v cv := by
  unfold aop at h
  unfold execOp
  cases ho : o.op with
  | move x =>
    simp only [ho] at h ⊢
    obtain ⟨v, hv, rfl⟩ := val_done h
    cases hv
    exact ⟨_, rfl, fun m β a w he _ => ⟨_, rfl, he x (by simp [Op.operands])⟩⟩
  | assign x =>
    simp only [ho] at h ⊢
    obtain ⟨v, hv, rfl⟩ := val_done h
    cases hv
    exact ⟨_, rfl, fun m β a w he _ => ⟨_, rfl, he x (by simp [Op.operands])⟩⟩
  | pick c x y =>
    simp only [ho] at h ⊢
    split at h
    · rename_i t hc
      obtain ⟨v, hv, rfl⟩ := val_done h
      cases hv
      refine ⟨_, rfl, fun m β a w he _ => ?_⟩
      have h1 := (he c (by simp [Op.operands])).v (by rw [hc]; rfl)
      rw [hc] at h1
      have h2 := V.eq_flat0 rfl h1
      refine ⟨if t then a.eval x else a.eval y, by simp [h2, asBool], ?_⟩
      cases t
      · exact he y (by simp [Op.operands])
      · exact he x (by simp [Op.operands])
    · cases h
  | build t ps =>
    simp only [ho] at h ⊢
    obtain ⟨v, hv, rfl⟩ := val_done h
    refine ⟨v, rfl, fun m β a w he _ => ?_⟩
    have hp : PV m (ps.toList.map fun p => (p.1, s.ev p.2)) (ps.map fun x => (x.1, a.eval x.2)).toList := by
      refine ⟨by simp, fun i x y hx hy => ?_⟩
      simp only [List.getElem?_map, Array.toList_map] at hx hy
      cases hpi : ps.toList[i]? with
      | none => rw [hpi] at hx; cases hx
      | some p =>
        rw [hpi] at hx hy
        cases hx; cases hy
        exact ⟨rfl, (he p.2 (by simp only [Op.operands, List.mem_map]; exact ⟨p, List.mem_of_getElem? hpi, rfl⟩)).isLoc_or⟩
    obtain ⟨cv, h1, h2⟩ := run_buildV hv hp w
    exact ⟨cv, run_v h1, .inr (.inr h2)⟩
  | nilCheck x =>
    simp only [ho] at h ⊢
    split at h
    · rename_i hn
      have key : ∃ v, val s o.dst (some (s.ev x)) = some v ∧ r = v ∧ (∀ n a b, s.ev x ≠ .func (.method n) a b) := by
        split at h
        · cases h
        · rename_i hne
          exact ⟨r, h, rfl, fun n a b e => hne n a b e⟩
      obtain ⟨r', h', rfl, hne⟩ := key
      obtain ⟨v, hv, rfl⟩ := val_done h'
      cases hv
      refine ⟨_, rfl, fun m β a w he _ => ?_⟩
      have h1 := (he x (by simp [Op.operands])).v (nilness_loc hn)
      have h2 : nilness (a.eval x) = some false := (nilness_V h1).trans hn
      refine ⟨a.eval x, ?_, .inr (.inr h1)⟩
      generalize a.eval x = cx at h1 h2
      generalize s.ev x = ax at h1 hne
      cases h1 <;> first | rfl | (simp [nilness] at h2; done)
    · cases h
  | binOp op t x y ty =>
    simp only [ho] at h ⊢
    obtain ⟨v, hv, rfl⟩ := val_done h
    refine ⟨v, rfl, fun m β a w he _ => ?_⟩
    obtain ⟨l1, l2⟩ := bin_loc hv
    obtain ⟨h1, h2⟩ := run_bin hv ((he x (by simp [Op.operands])).v l1) ((he y (by simp [Op.operands])).v l2) x y w
    exact ⟨v, run_v h1, .inr (.inr (.of_flat0 h2))⟩
  | unOp op t x =>
    simp only [ho] at h ⊢
    obtain ⟨v, hv, rfl⟩ := val_done h
    refine ⟨v, rfl, fun m β a w he _ => ?_⟩
    obtain ⟨h1, h2⟩ := run_un (P := P) hv ((he x (by simp [Op.operands])).v (un_flat hv)) w
    exact ⟨v, run_v h1, .inr (.inr (.of_flat0 h2))⟩
  | makeFunc fn fi ca =>
    simp only [ho] at h ⊢
    cases fn with
    | func f =>
      simp only at h
      split at h
      · rename_i hall
        rw [List.all_eq_true] at hall
        obtain ⟨v, hv, rfl⟩ := val_done h
        cases hv
        refine ⟨_, rfl, fun m β a w he _ => ⟨_, rfl, .inr (.inr (.func f _ _ _ _ (by simp) (by simp) ?_ ?_))⟩⟩
        · intro i x y hx hy
          simp only [Array.getElem?_map] at hx hy
          cases hf : fi[i]? with
          | none => rw [hf] at hx; cases hx
          | some q =>
            rw [hf] at hx hy
            cases hx; cases hy
            have hm : q ∈ fi.toList := Array.mem_toList_iff.2 (Array.mem_of_getElem? hf)
            exact (he q (by simp only [Op.operands, Array.toList_append, List.mem_append]; exact .inl hm)).v (by simpa using hall q (by simp only [List.mem_append]; exact .inl hm))
        · intro i x y hx hy
          simp only [Array.getElem?_map] at hx hy
          cases hf : ca[i]? with
          | none => rw [hf] at hx; cases hx
          | some q =>
            rw [hf] at hx hy
            cases hx; cases hy
            have hm : q ∈ ca.toList := Array.mem_toList_iff.2 (Array.mem_of_getElem? hf)
            exact (he q (by simp only [Op.operands, Array.toList_append, List.mem_append]; exact .inr hm)).v (by simpa using hall q (by simp only [List.mem_append]; exact .inr hm))
      · cases h
    | _ => cases h
  | slice t x lo hi mx =>
    simp only [ho] at h ⊢
    obtain ⟨v, hv, rfl⟩ := val_done h
    refine ⟨v, rfl, fun m β a w he hes => ?_⟩
    have hl : isLoc (s.ev x) = false := by
      unfold slice at hv
      split at hv <;> first | (rename_i e; rw [e]; rfl) | cases hv | (rename_i q1 q2 q3 q4 e; rw [e]; rfl)
    obtain ⟨cv, h1, h2⟩ := run_slice hv hes ((he x (by simp [Op.operands])).v hl) (OV_map fun y hy => he y (by simp [Op.operands, hy])) (OV_map fun y hy => he y (by simp [Op.operands, hy]))
      (OV_map fun y hy => he y (by simp [Op.operands, hy])) w
    exact ⟨cv, run_v h1, .inr (.inr h2)⟩
  | fieldAddr t x f =>
    simp only [ho] at h ⊢
    obtain ⟨v, hv, rfl⟩ := val_done h
    refine ⟨v, rfl, fun m β a w he _ => ?_⟩
    obtain ⟨cv, h1, h2⟩ := run_fieldAddr hv (he x (by simp [Op.operands])) w
    exact ⟨cv, run_v h1, h2⟩
  | field t x f =>
    simp only [ho] at h ⊢
    obtain ⟨v, hv, rfl⟩ := val_done h
    refine ⟨v, rfl, fun m β a w he _ => ?_⟩
    have hl : isLoc (s.ev x) = false := by
      unfold fieldOf at hv
      split at hv
      · rename_i e; rw [e]; rfl
      · cases hv
    obtain ⟨cv, h1, h2⟩ := run_fieldOf hv ((he x (by simp [Op.operands])).v hl) w
    exact ⟨cv, run_v h1, .inr (.inr h2)⟩
  | indexAddr t x i =>
    simp only [ho] at h ⊢
    obtain ⟨v, hv, rfl⟩ := val_done h
    refine ⟨v, rfl, fun m β a w he _ => ?_⟩
    have hl : isLoc (s.ev x) = false ∧ isLoc (s.ev i) = false := by
      unfold indexAddr at hv
      split at hv
      · rename_i e1 e2; rw [e1, e2]; exact ⟨rfl, rfl⟩
      · cases hv
    obtain ⟨cv, h1, h2⟩ := run_indexAddr hv ((he x (by simp [Op.operands])).v hl.1) ((he i (by simp [Op.operands])).v hl.2) w
    exact ⟨cv, run_v h1, .inr (.inr h2)⟩
  | index t x i =>
    simp only [ho] at h ⊢
    obtain ⟨v, hv, rfl⟩ := val_done h
    refine ⟨v, rfl, fun m β a w he _ => ?_⟩
    have hl : isLoc (s.ev x) = false ∧ isLoc (s.ev i) = false := by
      unfold index at hv
      split at hv
      · rename_i e1 e2; rw [e1, e2]; exact ⟨rfl, rfl⟩
      · cases hv
    obtain ⟨h1, h2⟩ := run_index hv ((he x (by simp [Op.operands])).v hl.1) ((he i (by simp [Op.operands])).v hl.2) w
    exact ⟨v, run_v h1, .inr (.inr (.of_flat0 h2))⟩
  | extract t i =>
    simp only [ho] at h ⊢
    split at h
    · rename_i vs ht
      obtain ⟨v, hv, rfl⟩ := val_done h
      refine ⟨v, rfl, fun m β a w he _ => ?_⟩
      have h1 := (he t (by simp [Op.operands])).v (by rw [ht]; rfl)
      rw [ht] at h1
      generalize a.eval t = ct at h1
      cases h1 with
      | tup _ ys hs hh =>
        have hi : i < ys.size := by rw [← hs]; exact (Array.getElem?_eq_some_iff.1 hv).1
        refine ⟨ys[i], run_v ?_, .inr (.inr (hh i v ys[i] hv (by simp [hi])))⟩
        simp [Instr.extract, hi]
    · cases h
  | _ => rw [ho] at hk; cases hk

end Go.Abs
