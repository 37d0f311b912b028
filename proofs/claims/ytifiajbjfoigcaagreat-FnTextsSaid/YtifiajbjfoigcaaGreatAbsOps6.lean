/-
  THE ABSTRACT MACHINE AND THE MODEL: all operations in one theorem; operations in a row.
-/
import Derived.Test.YtifiajbjfoigcaaGreatAbsOp5
namespace Go.Abs
open Go
set_option linter.unusedSimpArgs false

/-- The call that an operation asks for, in the world. -/
def Asks (P : Program) (o : Oper) (m : Map) (a : Act) (w : World) (f : FuncId) (args : Array Value) : Prop :=
  ∃ cargs : Array Value, args.size = cargs.size ∧ (∀ (i : Nat) x y, args[i]? = some x → cargs[i]? = some y → V m x y) ∧ (hasBody P f → (execOp a.eval o).run P w = .ok (.enter f cargs) w)

theorem SR.evOk {m : Map} {β : LMap} {s : St} {a : Act} {w : World} (h : SR m β s a w) (xs : Array Operand) : EvOk m β s a xs := fun x _ => h.eval x

theorem step_done {P : Program} {ls : List Nat} {o : Oper} {s t : St} (hop : aop P ls o s = some (.done t)) {m : Map} {β : LMap} {a : Act} {w : World} (h : SR m β s a w) :
    ∃ v s', t = s'.put o.dst v ∧ s'.env = s.env ∧ s'.nt = s.nt ∧ Did P o m β s a w v s' := by
  by_cases hk : opKind o.op = true
  · obtain ⟨v, h1, h2⟩ := aop_val hk hop
    cases h1
    obtain ⟨cv, h3, h4⟩ := h2 m β a w (h.evOk _) h.h.es
    exact ⟨v, s, rfl, rfl, rfl, did_val h h3 h4⟩
  · have hop' := hop
    unfold aop at hop
    cases ho : o.op with
    | alloc t' =>
      simp only [ho] at hop
      split at hop
      · rename_i ti hti
        cases hop
        refine ⟨_, _, make_eq _ _ _ _, ?_, ?_, did_alloc h ls ho hti⟩ <;> (unfold St.made; split <;> rfl)
      · cases hop
    | box t' x =>
      simp only [ho] at hop
      split at hop
      · rename_i ti hti
        split at hop
        · rename_i hst
          cases hop
          refine ⟨_, _, make_eq _ _ _ _, ?_, ?_, did_box h ls ho hst⟩ <;> (unfold St.made; split <;> rfl)
        · cases hop
      · cases hop
    | buildSlice t' n ps =>
      simp only [ho] at hop
      obtain ⟨v, H, hv, hr⟩ := valH_done hop
      cases hr
      exact ⟨v, _, rfl, rfl, rfl, did_buildSlice h ho hv⟩
    | load t' x =>
      simp only [ho] at hop
      split at hop
      · rename_i ti hti
        obtain ⟨v, hv, hr⟩ := val_done hop
        cases hr
        exact ⟨v, s, rfl, rfl, rfl, did_load h ho hti hv⟩
      · cases hop
    | store t' x y =>
      simp only [ho] at hop
      split at hop
      · rename_i ti hti
        split at hop
        · rename_i hc
          cases hs : s.storeAt (s.ev x) (s.ev y).cells.toList with
          | none => rw [hs] at hop; cases hop
          | some s' =>
            rw [hs] at hop
            cases hop
            refine ⟨undef, s', rfl, ?_, ?_, did_store h ho hti hc.1 hc.2.1 hc.2.2 hs⟩ <;>
              (unfold St.storeAt at hs; split at hs <;> first | (split at hs <;> first | (cases hs; rfl) | cases hs) | cases hs)
        · cases hop
      · cases hop
    | convert t1 t2 x =>
      simp only [ho] at hop
      obtain ⟨v, H, hv, hr⟩ := valH_done hop
      cases hr
      exact ⟨v, _, rfl, rfl, rfl, did_convert h ho hv⟩
    | makeSlice t' l c =>
      simp only [ho] at hop
      obtain ⟨v, H, hv, hr⟩ := valH_done hop
      cases hr
      exact ⟨v, _, rfl, rfl, rfl, did_makeSlice h ho hv⟩
    | call c =>
      obtain ⟨ce, args, ts⟩ := c
      cases ce with
      | builtin b =>
        simp only [ho] at hop
        obtain ⟨v, s', h1, h2, h3, h4⟩ := did_builtin h ho hop
        cases h1
        exact ⟨v, s', rfl, h2, h3, h4⟩
      | value f =>
        simp only [ho] at hop
        split at hop
        · split at hop <;> cases hop
        · cases hop
      | invoke r n => simp only [ho] at hop; cases hop
    | _ =>
      first
        | (rw [ho] at hk; exact absurd rfl hk)
        | (simp only [ho] at hop; cases hop; done)

theorem step_call {P : Program} {ls : List Nat} {o : Oper} {s : St} {f : FuncId} {args : Array Value} (hop : aop P ls o s = some (.call f args)) {m : Map} {β : LMap} {a : Act} {w : World} (h : SR m β s a w) :
    Asks P o m a w f args := by
  have hk : opKind o.op = false := by
    cases hk : opKind o.op with
    | false => rfl
    | true =>
      obtain ⟨v, h1, h2⟩ := aop_val hk hop
      cases h1
  unfold aop at hop
  cases ho : o.op with
  | call c =>
    obtain ⟨ce, xs, ts⟩ := c
    cases ce with
    | builtin b =>
      simp only [ho] at hop
      obtain ⟨v, s', h1, _⟩ := did_builtin h ho hop
      cases h1
    | value fo =>
      simp only [ho] at hop
      split at hop
      · rename_i g fi ca hf
        split at hop
        · rename_i hall
          cases hop
          rw [List.all_eq_true] at hall
          have vf := (h.eval fo).v (by rw [hf]; rfl)
          rw [hf] at vf
          generalize hcf : a.eval fo = cf at vf
          cases vf with
          | func _ _ fi' _ ca' h1 h2 h3 h4 =>
          refine ⟨fi' ++ xs.map a.eval ++ ca', by simp [h1, h2], ?_, ?_⟩
          · intro i x y hx hy
            simp only [Array.getElem?_append, Array.size_append, Array.size_map, h1] at hx hy
            split at hx
            · rename_i q1
              rw [if_pos q1] at hy
              split at hx
              · rename_i q2
                rw [if_pos q2] at hy
                exact h3 i x y hx hy
              · rename_i q2
                rw [if_neg q2] at hy
                simp only [Array.getElem?_map] at hx hy
                cases hq : xs[i - fi'.size]? with
                | none => rw [hq] at hx; cases hx
                | some q =>
                  rw [hq] at hx hy
                  cases hx; cases hy
                  exact (h.eval q).v (by simpa using hall q (Array.mem_toList_iff.2 (Array.mem_of_getElem? hq)))
            · rename_i q1
              rw [if_neg q1] at hy
              exact h4 _ x y hx hy
          · intro hb
            have : execOp a.eval o = (do let d ← resolve a.eval ⟨.value fo, xs, ts⟩ o.type; invoke d.target d.args) := by unfold execOp; simp only [ho]
            rw [this]
            simp only [resolve, hcf, Deferred.ofValue, Sem.run_bind, Sem.run_pure, Result.andThen_ok, invoke]
            exact run_callFunc hb _ w
        · cases hop
      · cases hop
    | invoke r n => simp only [ho] at hop; cases hop
  | _ =>
    first
      | (rw [ho] at hk; cases hk; done)
      | (simp only [ho] at hop
         first
          | (cases hop; done)
          | (obtain ⟨v, H, hv, hr⟩ := valH_done hop; cases hr; done)
          | (split at hop
             · first
                | (cases hop; done)
                | (obtain ⟨v, hv, hr⟩ := val_done hop; cases hr; done)
                | (split at hop
                   · first
                      | (cases hop; done)
                      | (cases hs : s.storeAt _ _ with
                         | none => rw [hs] at hop; cases hop
                         | some s' => rw [hs] at hop; cases hop)
                   · cases hop)
             · cases hop))

end Go.Abs
