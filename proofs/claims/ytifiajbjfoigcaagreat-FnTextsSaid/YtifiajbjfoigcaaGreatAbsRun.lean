/-
  THE ABSTRACT MACHINE AND THE MODEL: operations in a row, regions, control.
-/
import Derived.Test.YtifiajbjfoigcaaGreatAbsOps6
namespace Go.Abs
open Go
set_option linter.unusedSimpArgs false

/-- How a frame and the world go on. -/
structure Goes (m : Map) (β : LMap) (s : St) (w : World) (m' : Map) (β' : LMap) (s' : St) (w' : World) : Prop where
  le : Le m m'
  lel : LeL β β'
  fr : Fr m β s.heap.size s.gen w m' β' w'
  hs : s.heap.size ≤ s'.heap.size
  gs : s.gen ≤ s'.gen

theorem Goes.refl (m : Map) (β : LMap) (s : St) (w : World) : Goes m β s w m β s w := ⟨Le.refl m, fun _ _ h => h, Fr.refl _ _ _ _ _, Nat.le_refl _, Nat.le_refl _⟩

theorem Goes.trans {m m' m'' : Map} {β β' β'' : LMap} {s s' s'' : St} {w w' w'' : World} (h : Goes m β s w m' β' s' w') (k : Goes m' β' s' w' m'' β'' s'' w'') : Goes m β s w m'' β'' s'' w'' :=
  ⟨h.le.trans k.le, fun l b hb => k.lel l b (h.lel l b hb), h.fr.trans k.fr h.hs h.gs, Nat.le_trans h.hs k.hs, Nat.le_trans h.gs k.gs⟩

theorem Goes.put {m m' : Map} {β β' : LMap} {s s' : St} {w w' : World} (h : Goes m β s w m' β' s' w') (dst : Option Tmp) (v : Value) : Goes m β s w m' β' (s'.put dst v) w' :=
  ⟨h.le, h.lel, h.fr, by rw [put_heap]; exact h.hs, by rw [put_gen]; exact h.gs⟩

theorem wanted_ok {ops : Array Oper} {o : Oper} {s : St} {b : Bool} (hw : wanted ops o s = some b) {m : Map} {β : LMap} {a : Act} {w : World} (h : SR m β s a w) : Region.wanted o (yielded ops a.tmps) = b := by
  unfold wanted at hw
  unfold Region.wanted
  split at hw
  · rename_i hg
    cases hw
    rw [hg]
  · rename_i j want hg
    rw [hg]
    simp only
    split at hw
    · rename_i oj hj
      split at hw
      · rename_i d hd
        split at hw
        · rename_i hlt
          have he := h.env d
          have hget : a.tmps[d]? = some (a.tmps.getD d undef) := by
            have : d < a.tmps.size := by rw [h.nt]; exact hlt
            simp [this]
          split at hw
          · rename_i q hq
            cases hw
            rw [hq] at he
            have := V.eq_flat0 rfl (he.v rfl)
            rw [this] at hget
            simp [yielded, hj, hd, hget]
          · rename_i vs hq
            cases hw
            rw [hq] at he
            have hv := he.v rfl
            generalize hcv : a.tmps.getD d undef = cv at hv hget
            cases hv
            simp [yielded, hj, hd, hget]
          · cases hw
        · cases hw
      · cases hw
    · cases hw

/-- One operation, wanted or not. -/
theorem evOp_put {P : Program} {C : Oracle} (hC : Sound P C) {ls : List Nat} {ops : Array Oper} {o : Oper} {s s' : St} (hev : evOp P C ls ops o s = some s') {m : Map} {β : LMap} {a : Act} {w : World} (h : SR m β s a w)
    {K : Act → World → Prop} {Q : Exit → Act → World → Prop} (hK : ∀ m' β' cv w', SR m' β' s' (a.put o.dst cv) w' → Goes m β s w m' β' s' w' → K (a.put o.dst cv) w') :
    if Region.wanted o (yielded ops a.tmps) then o.wp P a w K Q else K (a.put o.dst undef) w := by
  unfold evOp at hev
  split at hev
  · rename_i hw
    rw [if_pos (wanted_ok hw h)]
    split at hev
    · rename_i t hop
      cases hev
      obtain ⟨v, s1, rfl, he, hn, m', β', cv, w', nx, hrun, hnx, hv, hb⟩ := step_done hop h
      have hsr : SR m' β' (s1.put o.dst v) (a.put o.dst cv) w' := by
        refine SR.put ?_ o.dst hv
        exact ⟨hb.h, hb.l, fun t => by rw [he]; exact (h.env t).mono hb.le hb.lel, by rw [hn]; exact h.nt, h.df⟩
      have := hK m' β' _ w' hsr (Goes.put ⟨hb.le, hb.lel, hb.fr, hb.hs, hb.gs⟩ _ _)
      unfold Oper.wp
      rw [hrun]
      rcases hnx with rfl | ⟨rfl, rfl⟩ <;> exact this
    · rename_i f args hop
      split at hev
      · rename_i v H hc
        cases hev
        obtain ⟨hb, hok⟩ := hC f args s.heap v H hc
        obtain ⟨cargs, c1, c2, c3⟩ := step_call hop h
        have hcall := hok m w cargs h.h c1 c2
        unfold Oper.wp
        rw [c3 hb]
        show Calls P f cargs w _
        refine hcall.mono ?_
        rintro e w' ⟨m', cv, rfl, hv, hH, hfr, hsz⟩
        have hle : Le m m' := fun id q hq => by rw [hfr.keep id (h.h.dom id q hq)]; exact hq
        have hl : LRel m' β s.loc s.gen w' := h.l.world hle (fun l b hb => hfr.frame b (h.l.lt hb) (fun id e he => h.l.sep l b id e hb he) (fun _ hh => by cases hh)) fun l b id e hb he => by
          rcases hfr.img id e he with ⟨i, q, hq, hqb⟩ | hge
          · rw [← hqb]; exact h.l.sep l b i q hb hq
          · have := h.l.lt hb; omega
        have hsr : SR m' β ({ s with heap := H }.put o.dst v) (a.put o.dst cv) w' := by
          refine SR.put ?_ o.dst (.inr (.inr hv))
          exact ⟨hH, hl, fun t => (h.env t).mono hle (fun _ _ h => h), h.nt, h.df⟩
        have hfr' : Fr m β s.heap.size s.gen w m' β w' := { hfr with
          lkeep := fun _ _ => rfl
          limg := fun _ _ hb => .inl hb
          frame := fun b hb h1 _ => hfr.frame b hb h1 (fun _ hh => by cases hh)
          rest := fun b C C' t t' f f' h1 h2 o h3 _ => hfr.rest b C C' t t' f f' h1 h2 o h3 (fun _ hh => by cases hh) }
        exact hK m' β _ w' hsr (Goes.put (s' := { s with heap := H }) ⟨hle, fun _ _ h => h, hfr', hsz, Nat.le_refl _⟩ _ _)
      · cases hev
    · cases hev
  · rename_i hw
    cases hev
    rw [if_neg (by rw [wanted_ok hw h]; simp)]
    have hsr : SR m β (s.put o.dst undef) (a.put o.dst undef) w := h.put o.dst (.inr (.inr (.tup _ _ rfl (fun i x y hx => by simp at hx))))
    exact hK m β _ w hsr (Goes.put (Goes.refl _ _ _ _) _ _)
  · cases hev

theorem evOp_ok {P : Program} {C : Oracle} (hC : Sound P C) {ls : List Nat} {ops : Array Oper} {o : Oper} {s s' : St} (hev : evOp P C ls ops o s = some s') {m : Map} {β : LMap} {a : Act} {w : World} (h : SR m β s a w)
    {K : Act → World → Prop} {Q : Exit → Act → World → Prop} (hK : ∀ m' β' a' w', SR m' β' s' a' w' → Goes m β s w m' β' s' w' → K a' w') :
    if Region.wanted o (yielded ops a.tmps) then o.wp P a w K Q else K (a.put o.dst undef) w :=
  evOp_put hC hev h fun m' β' _ w' => hK m' β' _ w'

theorem evOps_ok {P : Program} {C : Oracle} (hC : Sound P C) {ls : List Nat} {ops : Array Oper} : ∀ (rest : List Oper) (s s' : St), evOps P C ls ops rest s = some s' → ∀ (m : Map) (β : LMap) (a : Act) (w : World), SR m β s a w →
    ∀ (Q : Exit → Act → World → Prop), (∀ m' β' a' w', SR m' β' s' a' w' → Goes m β s w m' β' s' w' → Q .normal a' w') → wpList P ops Q rest a w
  | [], s, s', hev, m, β, a, w, h, Q, hQ => by
    cases hev
    exact hQ m β a w h (Goes.refl _ _ _ _)
  | o :: rest, s, s', hev, m, β, a, w, h, Q, hQ => by
    unfold evOps at hev
    split at hev
    · rename_i s1 h1
      have key := evOp_ok hC h1 h (K := wpList P ops Q rest) (Q := Q) fun m1 β1 a1 w1 hs1 hg1 =>
        evOps_ok hC rest s1 s' hev m1 β1 a1 w1 hs1 Q fun m' β' a' w' hs' hg' => hQ m' β' a' w' hs' (hg1.trans hg')
      unfold wpList
      split
      · rename_i hw; rw [if_pos hw] at key; exact .inl key
      · rename_i hw; rw [if_neg hw] at key; exact key
    · cases hev

/-- What a result says at an exit. -/
def Res.at (r : Res) (e : Exit) (s' : St) : Prop :=
  match r, e with
  | .norm s, .normal => s' = s
  | .exit id s, .exit id' => id = id' ∧ s' = s
  | .ret s, .ret => s' = s
  | _, _ => False

def CodeOK (P : Program) (c : Code) (s : St) (r : Res) : Prop :=
  ∀ (m : Map) (β : LMap) (a : Act) (w : World), SR m β s a w → ∀ (Q : Exit → Act → World → Prop),
    (∀ e m' β' s' a' w', r.at e s' → SR m' β' s' a' w' → Goes m β s w m' β' s' w' → Q e a' w') → c.wp P Q a w

theorem least {p : Nat → Prop} (h : ∃ n, p n) : ∃ n, p n ∧ ∀ k, k < n → ¬ p k := by
  obtain ⟨n, hn⟩ := h
  induction n using Nat.strongRecOn with
  | _ n ih =>
    by_cases hk : ∃ k, k < n ∧ p k
    · obtain ⟨k, hk, hp⟩ := hk
      exact ih k hk hp
    · exact ⟨n, hn, fun k hk' hp => hk ⟨k, hk', hp⟩⟩

open Classical in
theorem loop_ok {P : Program} {c : Code} {f : St → Option Res} (hf : ∀ s r, f s = some r → CodeOK P c s r) (n : Nat) (s : St) (r : Res) (h : loopN f n s = some r) : CodeOK P (.loop c) s r := by
  intro m β a w hs Q hQ
  let J : Nat → Act → World → Prop := fun n a' w' => ∃ s' m' β', loopN f n s' = some r ∧ SR m' β' s' a' w' ∧ Goes m β s w m' β' s' w'
  let μ : Act → World → Nat := fun a' w' => if h : ∃ n, J n a' w' then Classical.choose (least h) else 0
  have hμ : ∀ a' w' (h : ∃ n, J n a' w'), J (μ a' w') a' w' ∧ ∀ k, k < μ a' w' → ¬ J k a' w' := by
    intro a' w' h
    have : μ a' w' = Classical.choose (least h) := dif_pos h
    rw [this]
    exact Classical.choose_spec (least h)
  refine wp_loop (fun a' w' => ∃ n, J n a' w') μ ⟨n, s, m, β, h, hs, Goes.refl _ _ _ _⟩ ?_
  intro a1 w1 hJ
  obtain ⟨hj, hmin⟩ := hμ a1 w1 hJ
  obtain ⟨s1, m1, β1, hl, hs1, hg1⟩ := hj
  cases hk : μ a1 w1 with
  | zero => rw [hk] at hl; cases hl
  | succ k =>
    rw [hk] at hl
    unfold loopN at hl
    cases hb : f s1 with
    | none => rw [hb] at hl; cases hl
    | some q =>
      rw [hb] at hl
      refine hf s1 q hb m1 β1 a1 w1 hs1 _ ?_
      intro e m2 β2 s2 a2 w2 hat hs2 hg2
      cases q with
      | norm sq =>
        cases e <;> first | (cases hat; done) | skip
        obtain rfl : s2 = sq := hat
        have hj2 : J k a2 w2 := ⟨s2, m2, β2, hl, hs2, hg1.trans hg2⟩
        refine ⟨⟨k, hj2⟩, ?_⟩
        have h2 := hμ a2 w2 ⟨k, hj2⟩
        rcases Nat.lt_or_ge k (μ a2 w2) with hlt | hge
        · exact absurd hj2 (h2.2 k hlt)
        · omega
      | exit id sq =>
        cases hl
        cases e <;> first | (cases hat; done) | skip
        exact hQ _ m2 β2 s2 a2 w2 hat hs2 (hg1.trans hg2)
      | ret sq =>
        cases hl
        cases e <;> first | (cases hat; done) | skip
        exact hQ _ m2 β2 s2 a2 w2 hat hs2 (hg1.trans hg2)

end Go.Abs
