/-
  THE ABSTRACT MACHINE AND THE MODEL: code, calls: what the abstract machine says of a function holds of it.
-/
import Derived.Test.YtifiajbjfoigcaaGreatAbsDraw
namespace Go.Abs
open Go
set_option linter.unusedSimpArgs false

theorem at_norm {s s' : St} {e : Exit} (h : (Res.norm s).at e s') : e = .normal ∧ s' = s := by cases e <;> first | exact ⟨rfl, h⟩ | cases h
theorem at_exit {s s' : St} {id : Nat} {e : Exit} (h : (Res.exit id s).at e s') : e = .exit id ∧ s' = s := by
  cases e <;> first | (obtain ⟨h1, h2⟩ := h; subst h1; exact ⟨rfl, h2⟩) | cases h
theorem at_ret {s s' : St} {e : Exit} (h : (Res.ret s).at e s') : e = .ret ∧ s' = s := by cases e <;> first | exact ⟨rfl, h⟩ | cases h

theorem code_ok {P : Program} (hm : P.follows .mixedOrders = true) {C : Oracle} (hC : Sound P C) (n : Nat) (ls : List Nat) : ∀ (c : Code), drawsOk c = true → ∀ (s : St) (r : Res), evCode P C n ls c s = some r → CodeOK P c s r := by
  intro c
  induction c with
  | skip =>
    intro hok s r h m β a w hs Q hQ
    cases h
    exact wp_skip (hQ _ m β s a w rfl hs (Goes.refl _ _ _ _))
  | label l =>
    intro hok s r h m β a w hs Q hQ
    cases h
    exact wp_label (hQ _ m β s a w rfl hs (Goes.refl _ _ _ _))
  | exit id =>
    intro hok s r h m β a w hs Q hQ
    cases h
    exact wp_exit (hQ _ m β s a w ⟨rfl, rfl⟩ hs (Goes.refl _ _ _ _))
  | ret =>
    intro hok s r h m β a w hs Q hQ
    cases h
    exact wp_ret (hQ _ m β s a w rfl hs (Goes.refl _ _ _ _))
  | region id ops draw =>
    intro hok s r h
    unfold evCode at h
    split at h
    · rename_i hd
      cases he : evDraw P C ls ops (masks ops.toList) [] ops.toList s with
      | none => rw [he] at h; cases h
      | some s' =>
        rw [he] at h
        cases h
        subst hd
        exact draw_ok hm hC (by simpa [drawsOk] using hok) he
    · rename_i hd
      have hd' : draw = false := by simpa using hd
      subst hd'
      cases he : evOps P C ls ops ops.toList s with
      | none => rw [he] at h; cases h
      | some s' =>
        rw [he] at h
        cases h
        intro m β a w hs Q hQ
        exact wp_region_list (evOps_ok hC ops.toList s s' he m β a w hs Q fun m' β' a' w' hs' hg' => hQ _ m' β' s' a' w' rfl hs' hg')
  | seq x y ihx ihy =>
    intro hok
    simp only [drawsOk, Bool.and_eq_true] at hok
    replace ihx := ihx hok.1
    replace ihy := ihy hok.2
    intro s r h m β a w hs Q hQ
    unfold evCode at h
    cases hx : evCode P C n ls x s with
    | none => rw [hx] at h; cases h
    | some q =>
      rw [hx] at h
      refine wp_seq (ihx s q hx m β a w hs _ ?_)
      intro e m1 β1 s1 a1 w1 hat hs1 hg1
      cases q with
      | norm sq =>
        obtain ⟨rfl, rfl⟩ := at_norm hat
        refine ihy s1 r h m1 β1 a1 w1 hs1 Q ?_
        intro e m2 β2 s2 a2 w2 hat2 hs2 hg2
        exact hQ e m2 β2 s2 a2 w2 hat2 hs2 (hg1.trans hg2)
      | exit id sq =>
        cases h
        have hat' := hat
        obtain ⟨rfl, rfl⟩ := at_exit hat'
        exact hQ _ m1 β1 s1 a1 w1 hat hs1 hg1
      | ret sq =>
        cases h
        have hat' := hat
        obtain ⟨rfl, rfl⟩ := at_ret hat'
        exact hQ _ m1 β1 s1 a1 w1 hat hs1 hg1
  | cond c x y ihx ihy =>
    intro hok
    simp only [drawsOk, Bool.and_eq_true] at hok
    replace ihx := ihx hok.1
    replace ihy := ihy hok.2
    intro s r h m β a w hs Q hQ
    unfold evCode at h
    split at h
    · rename_i t hc
      have he := (hs.eval c).v (by rw [hc]; rfl)
      rw [hc] at he
      have hce := V.eq_flat0 rfl he
      refine wp_cond hce ?_
      cases t with
      | true => simp only [if_true] at h ⊢; exact ihx s r h m β a w hs Q hQ
      | false => simp only [Bool.false_eq_true, if_false] at h ⊢; exact ihy s r h m β a w hs Q hQ
    · cases h
  | block id x ih =>
    intro hok
    replace ih := ih hok
    intro s r h m β a w hs Q hQ
    unfold evCode at h
    cases hx : evCode P C n ls x s with
    | none => rw [hx] at h; cases h
    | some q =>
      rw [hx] at h
      refine wp_block (ih s q hx m β a w hs _ ?_)
      intro e m1 β1 s1 a1 w1 hat hs1 hg1
      cases q with
      | norm sq =>
        cases h
        obtain ⟨rfl, rfl⟩ := at_norm hat
        exact hQ .normal m1 β1 s1 a1 w1 rfl hs1 hg1
      | exit id' sq =>
        obtain ⟨rfl, rfl⟩ := at_exit hat
        simp only [evBlk] at h
        show if id' = id then Q .normal a1 w1 else Q (.exit id') a1 w1
        split at h
        · rename_i hid
          cases h
          rw [if_pos hid]
          exact hQ .normal m1 β1 s1 a1 w1 rfl hs1 hg1
        · rename_i hid
          cases h
          rw [if_neg hid]
          exact hQ (.exit id') m1 β1 s1 a1 w1 ⟨rfl, rfl⟩ hs1 hg1
      | ret sq =>
        cases h
        obtain ⟨rfl, rfl⟩ := at_ret hat
        exact hQ .ret m1 β1 s1 a1 w1 rfl hs1 hg1
  | loop x ih =>
    intro hok
    replace ih := ih hok
    intro s r h
    unfold evCode at h
    exact loop_ok (fun s r h => ih s r h) n s r h
  | _ => intro _ s r h; cases h

/-! ### Results -/

theorem run_result1 {P : Program} {s : St} {m : Map} {β : LMap} {a : Act} {w : World} (h : SR m β s a w) {rv : ResultVar} {v : Value} (hv : result1 P s rv = some v) :
    ∃ cv, ((match rv with | .tmp t => pure (a.tmps.getD t undef) | .cell x t => do loadVar t (← asAddr (a.tmps.getD x undef))) : Sem Value).run P w = .ok cv w ∧ V m v cv := by
  unfold result1 at hv
  cases rv with
  | tmp t =>
    simp only at hv ⊢
    split at hv
    · cases hv
    · rename_i hl
      cases hv
      exact ⟨_, rfl, (h.env t).v (by simpa using hl)⟩
  | cell x t =>
    simp only at hv ⊢
    split at hv
    · rename_i ti hti
      cases hc : s.cellsAt (s.env x) ti.size with
      | none => rw [hc] at hv; cases hv
      | some l =>
        rw [hc] at hv
        obtain ⟨b, off, cl, h1, h2, h3, h4, h5⟩ := cellsAt_V h (h.env x) hc
        obtain ⟨cv, k1, k2⟩ := mk_V hv cl h2 h5
        refine ⟨cv, ?_, k2⟩
        rw [h1]
        simp only [asAddr, Sem.run_bind, Sem.run_pure, Result.andThen_ok]
        exact run_loadVar hti b off cl (by omega) w h4 k1
    · cases hv

theorem run_resultL {P : Program} {s : St} {m : Map} {β : LMap} {a : Act} {w : World} (h : SR m β s a w) : ∀ (rs : List ResultVar) (l : List Value), resultL P s rs = some l →
    ∃ cl : List Value, (rs.mapM fun | .tmp t => pure (a.tmps.getD t undef) | .cell x t => do loadVar t (← asAddr (a.tmps.getD x undef)) : Sem (List Value)).run P w = .ok cl w ∧ cl.length = l.length ∧
      ∀ (i : Nat) x y, l[i]? = some x → cl[i]? = some y → V m x y
  | [], l, hl => by
    cases hl
    exact ⟨[], by simp, rfl, fun i x y hx => by simp at hx⟩
  | r :: rest, l, hl => by
    unfold resultL at hl
    split at hl
    · rename_i v l' h1 h2
      cases hl
      obtain ⟨cv, e1, e2⟩ := run_result1 h h1
      obtain ⟨cl, f1, f2, f3⟩ := run_resultL h rest l' h2
      refine ⟨cv :: cl, ?_, by simp [f2], ?_⟩
      · rw [List.mapM_cons, Sem.run_bind]
        refine (congrArg (fun q => Result.andThen q _) e1).trans ?_
        simp only [Result.andThen_ok, Sem.run_bind, f1, Sem.run_pure]
      · intro i x y hx hy
        cases i with
        | zero => cases hx; cases hy; exact e2
        | succ i => exact f3 i x y hx hy
    · cases hl

theorem run_results {P : Program} {s : St} {m : Map} {β : LMap} {a : Act} {w : World} (h : SR m β s a w) {fn : Func} {v : Value} (hv : resultsOf P s fn.results.toList = some v) :
    ∃ cv, (results fn a.tmps).run P w = .ok cv w ∧ V m v cv := by
  unfold resultsOf at hv
  cases hl : resultL P s fn.results.toList with
  | none => rw [hl] at hv; cases hv
  | some l =>
    rw [hl] at hv
    obtain ⟨cl, f1, f2, f3⟩ := run_resultL h fn.results.toList l hl
    have hr : (results fn a.tmps).run P w = .ok (if h : cl.toArray.size = 1 then cl.toArray[0] else .tuple cl.toArray) w := by
      unfold results
      rw [Sem.run_bind, Array.mapM_eq_mapM_toList]
      have hmap : ∀ (q : Sem (List Value)), q.run P w = .ok cl w → (List.toArray <$> q).run P w = .ok cl.toArray w := by
        intro q hq
        simp [hq]
      have this := hmap _ f1
      refine (congrArg (fun q => Result.andThen q _) this).trans ?_
      simp only [Result.andThen_ok, Sem.run_pure]
    rw [hr]
    cases l with
    | nil =>
      have : cl = [] := List.length_eq_zero_iff.1 f2
      subst this
      cases hv
      exact ⟨_, rfl, .tup _ _ rfl (fun i x y hx => by simp at hx)⟩
    | cons x l' =>
      cases l' with
      | nil =>
        obtain ⟨y, rfl⟩ := List.length_eq_one_iff.1 f2
        cases hv
        exact ⟨y, rfl, f3 0 _ y rfl rfl⟩
      | cons x2 l'' =>
        cases hv
        have hs1 : ¬ cl.toArray.size = 1 := by simp [f2]
        rw [dif_neg hs1]
        refine ⟨_, rfl, .tup _ _ (by simp [f2]) fun i p q hp hq => ?_⟩
        simp only [List.getElem?_toArray] at hp hq
        exact f3 i p q hp hq

theorem older_V {m : Map} {n : Nat} {c cc : Value} (ho : olderThan n c) (hv : V m c cc) : V (below m n) c cc := by
  cases hv with
  | ptr id off e h =>
    refine .ptr id off e ?_
    unfold below
    rw [if_pos ho.1]; exact h
  | slc id off len c cap o e h hl hc ho' ht =>
    refine .slc id off len c cap o e ?_ hl hc ho' ht
    unfold below
    rw [if_pos ho.1]; exact h
  | func f fi fi' ca ca' h1 h2 h3 h4 =>
    have hf : flat0 (.func (.func f) fi ca) = true := ho
    have := V.eq_flat0 hf (.func f fi fi' ca ca' h1 h2 h3 h4)
    rw [this]
    exact .of_flat0 hf
  | bool b => exact .bool b
  | int k n => exact .int k n
  | str s => exact .str s
  | nilp => exact .nilp
  | nils => exact .nils
  | nilf => exact .nilf
  | nili => exact .nili
  | agg xs ys h h1 hh => cases ho
  | tup xs ys h hh => cases ho

theorem V.down {m m' : Map} {n : Nat} (hd : ∀ id e, m id = some e → id < n) (hk : ∀ id, id < n → m' id = m id) {c c0 : Value} (h0 : V m c c0) : ∀ {cc : Value}, V m' c cc → V (Abs.below m' n) c cc := by
  induction h0 with
  | bool b => intro cc h; cases h; exact .bool b
  | int k n => intro cc h; cases h; exact .int k n
  | str s => intro cc h; cases h; exact .str s
  | nilp => intro cc h; cases h; exact .nilp
  | nils => intro cc h; cases h; exact .nils
  | nilf => intro cc h; cases h; exact .nilf
  | nili => intro cc h; cases h; exact .nili
  | ptr id off e h =>
    intro cc hv
    cases hv with
    | ptr _ _ e' h' =>
      refine .ptr id off e' ?_
      unfold Abs.below
      rw [if_pos (hd _ _ h)]; exact h'
  | slc id off len c cap o e h hl hc ho ht =>
    intro cc hv
    cases hv with
    | slc _ _ _ _ cap' o' e' h' hl' hc' ho' ht' =>
      refine .slc id off len c cap' o' e' ?_ hl' hc' ho' ht'
      unfold Abs.below
      rw [if_pos (hd _ _ h)]; exact h'
  | func f fi fi0 ca ca0 h1 h2 h3 h4 i3 i4 =>
    intro cc hv
    cases hv with
    | func _ _ fi' _ ca' g1 g2 g3 g4 =>
      refine .func f fi fi' ca ca' g1 g2 (fun i x y hx hy => ?_) fun i x y hx hy => ?_
      · have hi : i < fi0.size := by rw [← h1]; exact (Array.getElem?_eq_some_iff.1 hx).1
        exact i3 i x fi0[i] hx (by simp [hi]) (g3 i x y hx hy)
      · have hi : i < ca0.size := by rw [← h2]; exact (Array.getElem?_eq_some_iff.1 hx).1
        exact i4 i x ca0[i] hx (by simp [hi]) (g4 i x y hx hy)
  | agg xs ys h h1 hh ih =>
    intro cc hv
    cases hv with
    | agg _ ys' g g1 gg =>
      refine .agg xs ys' g g1 fun i x y hx hy => ?_
      have hi : i < ys.size := by rw [← h]; exact (Array.getElem?_eq_some_iff.1 hx).1
      exact ih i x ys[i] hx (by simp [hi]) (gg i x y hx hy)
  | tup xs ys h hh ih =>
    intro cc hv
    cases hv with
    | tup _ ys' g gg =>
      refine .tup xs ys' g fun i x y hx hy => ?_
      have hi : i < ys.size := by rw [← h]; exact (Array.getElem?_eq_some_iff.1 hx).1
      exact ih i x ys[i] hx (by simp [hi]) (gg i x y hx hy)

open Classical in
/-- What a call has made and no one can reach may go. -/
theorem gc_ok {m m' : Map} {H H' : Heap} {w w' : World} (h0 : HRel m H w) (hk : ∀ id, id < H.size → m' id = m id) {v cv : Value} (hn : H.size ≤ H'.size) (hv : V m' v cv) (hH : HRel m' H' w') :
    ∃ m'', V m'' v cv ∧ HRel m'' (gc H v H') w' ∧ (∀ id, id < H.size → m'' id = m' id) ∧ Le m'' m' ∧ H.size ≤ (gc H v H').size := by
  unfold gc
  split
  · rename_i hc
    obtain ⟨_, h1, h2⟩ := hc
    refine ⟨below m' H.size, ?_, ⟨?_, ?_, ?_⟩, fun id hi => by unfold below; rw [if_pos hi], below_le m' H.size, Nat.le_refl _⟩
    · have := V.eq_flat h1 hv
      rw [this]
      exact .of_flat h1
    · intro id e he
      show id < H.size
      unfold below at he
      split at he
      · assumption
      · cases he
    · intro id e he
      have hid : id < H.size := by
        unfold below at he
        split at he
        · assumption
        · cases he
      have he' := below_le m' H.size id e he
      obtain ⟨C, t, f, k1, k2, k3, k4, k5⟩ := hH.blk id e he'
      have hb : (H'.trunc H.size).blk id = H'.blk id := by
        show (if id < H.size then _ else _) = _
        rw [if_pos hid]
      rw [hb]
      refine ⟨C, t, f, k1, k2, k3, k4, fun i x hx => ?_⟩
      obtain ⟨g1, cx, g2, g3⟩ := k5 i x hx
      refine ⟨g1, cx, g2, ?_⟩
      rcases h2 id hid x (List.mem_of_getElem? hx) with hold | hold
      · obtain ⟨C0, t0, f0, q1, q2, q3, q4, q5⟩ := h0.blk id e (by rw [← hk id hid]; exact he')
        obtain ⟨j, hj⟩ := List.getElem?_of_mem hold
        obtain ⟨_, c0, _, r3⟩ := q5 j x hj
        exact V.down h0.dom hk r3 g3
      · exact older_V hold g3
    · intro i j e f hi hj hb
      have hii : i < H.size := by
        unfold below at hi
        split at hi
        · assumption
        · cases hi
      have hjj : j < H.size := by
        unfold below at hj
        split at hj
        · assumption
        · cases hj
      have h1 : (H'.trunc H.size).blk i = H'.blk i := by show (if i < H.size then _ else _) = _; rw [if_pos hii]
      have h2 : (H'.trunc H.size).blk j = H'.blk j := by show (if j < H.size then _ else _) = _; rw [if_pos hjj]
      rw [h1, h2]
      exact hH.alias i j e f (below_le m' H.size _ _ hi) (below_le m' H.size _ _ hj) hb
  · exact ⟨m', hv, hH, fun _ _ => rfl, Le.refl _, hn⟩

/-- Functions whose contracts are proved otherwise. -/
def Given (P : Program) (T : FuncId → Option (Array Value → Heap → Option (Value × Heap))) : Prop :=
  ∀ f g args H v H', T f = some g → g args H = some (v, H') → hasBody P f ∧ CallOK P f args H v H'

theorem ev_sound {P : Program} (hm : P.follows .mixedOrders = true) {T : FuncId → Option (Array Value → Heap → Option (Value × Heap))} (hT : Given P T) : ∀ n, Sound P (ev P T n)
  | 0 => fun f args H v H' h => by cases h
  | n + 1 => fun f args H v H' h => by
    have ih := ev_sound hm hT n
    unfold ev at h
    split at h
    · rename_i g hg
      exact hT f g args H v H' hg h
    · split at h
      · cases h
      · rename_i fn hf
        split at h
        · cases h
        · rename_i body hb
          split at h
          · cases h
          · rename_i hcond
            have hname : fn.name ≠ "runtime.NumGoroutine" := fun e => hcond (.inl e)
            have hsize : args.size ≤ fn.ntmps := Nat.le_of_not_lt fun e => hcond (.inr (.inl e))
            have hdraws : drawsOk body = true := by
              cases hdd : drawsOk body with
              | true => rfl
              | false => exact absurd (.inr (.inr hdd)) hcond
            refine ⟨⟨fn, body, hf, hb, hname⟩, ?_⟩
            have key : ∀ r s, evCode P (ev P T n) n (localsOf fn) body ⟨env0 args, fun _ => [], 0, H, fn.ntmps⟩ = some r → (r = .norm s ∨ r = .ret s) →
                (match resultsOf P s fn.results.toList with | some v => some (v, gc H v s.heap) | none => none) = some (v, H') → CallOK P f args H v H' := by
              intro r s hr hrs hres
              intro m w cargs hH hsz hargs
              refine calls_of_wp hf hb ?_
              have hsr : SR m (fun _ => none) ⟨env0 args, fun _ => [], 0, H, fn.ntmps⟩ { tmps := cargs ++ Array.replicate (fn.ntmps - cargs.size) undef, defers := [] } w := by
                refine ⟨hH, ⟨fun _ _ h => by (cases h), fun _ _ h => by (cases h), fun _ _ _ h => by (cases h), fun _ _ _ _ h => by (cases h)⟩, fun t => ?_, ?_, rfl⟩
                · show VL m _ (args.getD t undef) _
                  rw [Array.getD_eq_getD_getElem?, Array.getD_eq_getD_getElem?, Array.getElem?_append]
                  by_cases ht : t < args.size
                  · rw [if_pos (by omega)]
                    have h1 : args[t]? = some args[t] := by simp [ht]
                    have h2 : cargs[t]? = some (cargs[t]'(by omega)) := Array.getElem?_eq_getElem _
                    rw [h1, h2]
                    exact .inr (.inr (hargs t _ _ h1 h2))
                  · rw [if_neg (by omega), Array.getElem?_eq_none (by omega)]
                    have : (Array.replicate (fn.ntmps - cargs.size) undef)[t - cargs.size]?.getD undef = undef := by
                      rw [Array.getElem?_replicate]
                      split <;> rfl
                    rw [this]
                    exact .inr (.inr (.tup _ _ rfl (fun i x y hx => by simp at hx)))
                · show (cargs ++ Array.replicate (fn.ntmps - cargs.size) undef).size = fn.ntmps
                  simp
                  omega
              refine code_ok hm ih n (localsOf fn) body hdraws _ r hr m (fun _ => none) _ w hsr _ ?_
              intro e m' β' s' a' w' hat hs' hg'
              have hss : s' = s ∧ (e = .normal ∨ e = .ret) := by
                rcases hrs with rfl | rfl
                · obtain ⟨h1, h2⟩ := at_norm hat; exact ⟨h2, .inl h1⟩
                · obtain ⟨h1, h2⟩ := at_ret hat; exact ⟨h2, .inr h1⟩
              obtain ⟨rfl, he⟩ := hss
              cases hro : resultsOf P s' fn.results.toList with
              | none => rw [hro] at hres; cases hres
              | some v' =>
                rw [hro] at hres
                cases hres
                obtain ⟨cv, r1, r2⟩ := run_results hs' hro
                obtain ⟨m'', g1, g2, g3, g4, g5⟩ := gc_ok hH (fun id hi => hg'.fr.keep id hi) hg'.hs r2 hs'.h
                have hfin : (results fn a'.tmps).run P w' = .ok cv w' ∧ ∃ m' cv', Ending.returned cv = .returned cv' ∧ V m' v cv' ∧ HRel m' (gc H v s'.heap) w' ∧
                    Fr m (fun _ => none) H.size 0 w m' (fun _ => none) w' ∧ H.size ≤ (gc H v s'.heap).size := by
                  refine ⟨r1, m'', cv, rfl, g1, g2, ?_, g5⟩
                  have hfr := hg'.fr
                  exact { hfr with
                    keep := fun id hi => (g3 id hi).trans (hfr.keep id hi)
                    lkeep := fun l hl => absurd hl (Nat.not_lt_zero _)
                    img := fun id e he => hfr.img id e (g4 id e he)
                    img2 := fun id e he => hfr.img2 id e (g4 id e he)
                    rest := hfr.rest
                    limg := fun l b hb => by cases hb }
                rcases he with rfl | rfl <;> exact ⟨hs'.df, cv, hfin.1, hfin.2⟩
            split at h
            · rename_i s hs
              exact key _ s hs (.inl rfl) h
            · rename_i s hs
              exact key _ s hs (.inr rfl) h
            · cases h

end Go.Abs
