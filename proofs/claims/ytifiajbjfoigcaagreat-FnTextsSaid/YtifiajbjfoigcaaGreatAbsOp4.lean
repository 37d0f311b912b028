/-
  THE ABSTRACT MACHINE AND THE MODEL: append, copy, make.
-/
import Derived.Test.YtifiajbjfoigcaaGreatAbsOp3
import Derived.Deep.Upon
import Derived.Laws.BytesString
namespace Go.Abs
open Go
set_option linter.unusedSimpArgs false

/-- What is to be appended, in the world. -/
theorem newsOf_V {P : Program} {m : Map} {β : LMap} {s : St} {a : Act} {w : World} (h : SR m β s a w) {es n : Nat} {y cy : Value} {news : List Value} (hn : newsOf s es y = some (n, news)) (vy : V m y cy)
    {tx : TypeId} (hk : srcOk (P.underlying tx) y = true) : ∃ cnews, Src P es tx cy n cnews w ∧ cnews.length = news.length ∧ news.length = n * es ∧
      ∀ (i : Nat) x z, news[i]? = some x → cnews[i]? = some z → one x = true ∧ V m x z := by
  unfold newsOf at hn
  split at hn
  · cases hn
    cases vy
    have hk' : ∃ e', P.underlying tx = some (.slice e') := by
      unfold srcOk at hk
      split at hk
      · exact ⟨_, by assumption⟩
      · rename_i e; cases e
      · cases hk
    obtain ⟨e', hk'⟩ := hk'
    exact ⟨[], Src.ofNil w hk' 0, rfl, by simp, fun i x z hx => by simp at hx⟩
  · rename_i id off len c
    have hk' : ∃ e', P.underlying tx = some (.slice e') := by
      unfold srcOk at hk
      split at hk
      · exact ⟨_, by assumption⟩
      · rename_i e; cases e
      · cases hk
    obtain ⟨e', hk'⟩ := hk'
    cases vy with
    | slc _ _ _ _ cap o e he hle hc ho htop =>
    split at hn
    · rename_i h0
      cases hn
      subst h0
      refine ⟨[], ?_, rfl, by simp, fun i x z hx => by simp at hx⟩
      exact Src.ofSlice w hk' _ 0 cap [] (by simp) (fun j u hj => by simp at hj) (fun u hu => by simp at hu)
    · rename_i h0
      split at hn
      · rename_i hid
        cases hw : window (s.heap.blk id).cells off (len * es) with
        | none => rw [hw] at hn; cases hn
        | some l =>
          rw [hw] at hn
          cases hn
          have hcc : s.cellsAt (.pointer (some ⟨id, off, none⟩)) (n * es) = some news := by
            show (if id < s.heap.size then _ else _) = _
            rw [if_pos hid]
            exact hw
          obtain ⟨b, o', cl, e1, e2, e3, e4, e5⟩ := cellsAt_V h (.inr (.inr (.ptr id off e he))) hcc
          cases e1
          have ho' : o = e.s + off := ho.resolve_right (by omega)
          subst ho'
          refine ⟨cl, ?_, e2, e3, e5⟩
          have hadd : ∀ j, (⟨e.b, e.s + off, none⟩ : Addr).add j = ⟨e.b, e.s + off + j, none⟩ := by intro j; unfold Addr.add; split <;> simp_all
          refine Src.ofSlice w hk' _ n cap cl (by omega) (fun j u hj => by rw [hadd]; exact e4 j u hj) (fun u hu => ?_)
          obtain ⟨i, hi⟩ := List.getElem?_of_mem hu
          have hlt : i < news.length := by rw [← e2]; exact (List.getElem?_eq_some_iff.1 hi).1
          have := e5 i news[i] u (by simp [hlt]) hi
          exact one_oneCell u (this.2.one.trans this.1)
      · cases hn
  · rename_i b
    have hk' : P.underlying tx = some .string := by
      unfold srcOk at hk
      split at hk
      · rename_i e; cases e
      · assumption
      · cases hk
    cases V.eq_flat0 rfl vy
    split at hn
    · rename_i h1
      cases hn
      subst h1
      refine ⟨byteCells b, Src.ofString w hk' b, rfl, by rw [byteCells_length, Nat.mul_one], fun i x z hx hz => ?_⟩
      rw [hx] at hz
      cases hz
      obtain ⟨q, _, rfl⟩ := List.mem_map.1 (List.mem_of_getElem? hx)
      exact ⟨rfl, .int _ _⟩
    · cases hn
  · cases hn

theorem zeroCells_get (z : Array Value) (n : Nat) : (Builtin.zeroCells z n).size = n * z.size := by simp [Builtin.zeroCells]

/-- A row that the append lays anew. -/
theorem did_grown {P : Program} {o : Oper} {m : Map} {β : LMap} {s : St} {a : Act} {w w' : World} (h : SR m β s a w) (H' : Heap) (es n cap : Nat)
    (hsz : H'.size = s.heap.size + 1) (hsub : ∀ i, i < s.heap.size → Sub (H'.blk i) (s.heap.blk i)) (hes : (H'.blk s.heap.size).es = es) (C : Array Value) (t : TypeId)
    (hC : Cells m (H'.blk s.heap.size).cells C 0) (hcap : n ≤ cap) (htop : cap * es ≤ C.size) (hw : w'.heap = w.heap.push (.cells C t (0, 0))) (hst : Still w w')
    (hrun : (execOp a.eval o).run P w = .ok (.value (.slice (some ⟨w.heap.size, 0, none⟩) n cap)) w') :
    Did P o m β s a w (.slice (some ⟨s.heap.size, 0, none⟩) n 0) { s with heap := H' } := by
  obtain ⟨r1, r2, r3, r4⟩ := rel_alloc (H' := H') h.h h.l hsz hsub C t (0, 0) hC (free_zero C) hw hst
  rw [hes] at r1 r2 r3 r4
  refine ⟨_, _, _, _, _, hrun, .inl rfl, .inr (.inr ?_), ⟨r1, r2, r3, fun _ _ h => h, r4, by show s.heap.size ≤ H'.size; omega, Nat.le_refl _⟩⟩
  exact .slc s.heap.size 0 n 0 cap 0 _ (put_same _ _ _) hcap (.inl rfl) (.inl rfl) (.inl (by simpa using htop))

theorem Cells.app_zero {m : Map} {old news cold cnews : List Value} (ho : cold.length = old.length) (hn : cnews.length = news.length)
    (h1 : ∀ (i : Nat) x y, old[i]? = some x → cold[i]? = some y → one x = true ∧ V m x y) (h2 : ∀ (i : Nat) x y, news[i]? = some x → cnews[i]? = some y → one x = true ∧ V m x y) (Z : Array Value) :
    Cells m (old ++ news) ((cold ++ cnews).toArray ++ Z) 0 := by
  intro i x hx
  rw [List.getElem?_append] at hx
  have hget : ∀ j, j < (cold ++ cnews).length → ((cold ++ cnews).toArray ++ Z)[0 + j]? = (cold ++ cnews)[j]? := by
    intro j hj
    rw [Nat.zero_add, Array.getElem?_append, if_pos (by simpa using hj)]
    simp
  split at hx
  · rename_i hi
    have := h1 i x (cold[i]'(by omega)) hx (by simp)
    refine ⟨this.1, cold[i]'(by omega), ?_, this.2⟩
    rw [hget i (by simp; omega), List.getElem?_append, if_pos (by omega)]
    simp
  · rename_i hi
    have hlt : i - old.length < news.length := (List.getElem?_eq_some_iff.1 hx).1
    have := h2 (i - old.length) x (cnews[i - old.length]'(by omega)) hx (by simp)
    refine ⟨this.1, cnews[i - old.length]'(by omega), ?_, this.2⟩
    rw [hget i (by simp; omega), List.getElem?_append, if_neg (by omega), ho]
    simp


theorem nextcap_ok {need old bytes es : Nat} (h : old < need) (hb : need * (bytes + es + 1) ≤ roomMax) : Builtin.nextslicecap need old * bytes ≤ 281474976710656 ∧ ((need : Nat) : Int) ≤ 9223372036854775807 := by
  have h1 := nextslicecap_le h
  have h2 : need * bytes ≤ roomMax := Nat.le_trans (Nat.mul_le_mul_left _ (by omega)) hb
  have h3 : need ≤ roomMax := Nat.le_trans (by rw [Nat.mul_add]; omega) hb
  have h4 : Builtin.nextslicecap need old * bytes ≤ 2 * need * bytes := Nat.mul_le_mul_right _ h1
  have h5 : 2 * need * bytes = 2 * (need * bytes) := by rw [Nat.mul_assoc]
  unfold roomMax at h2 h3
  constructor
  · omega
  · omega

theorem did_append {P : Program} {o : Oper} {m : Map} {β : LMap} {s : St} {a : Act} {w : World} (h : SR m β s a w) {t tx : TypeId} {x y v : Value} {H : Heap} (hv : append P s t tx x y = some (v, H))
    {cx cy : Value} (vx : VL m β x cx) (vy : VL m β y cy) (ho : ∀ v' w', (Builtin.append_ #[t, tx] o.type #[cx, cy]).run P w = .ok v' w' → (execOp a.eval o).run P w = .ok (.value v') w') :
    Did P o m β s a w v { s with heap := H } := by
  unfold append at hv
  split at hv
  · rename_i q1 q2 q3 e es by_ ht
    obtain ⟨hd, j, z, hj, hz, hzs, rfl, rfl⟩ := TI_slice ht rfl
    split at hv
    · cases hv
    · rename_i hsrc
      have hsrc' : srcOk (P.underlying tx) y = true := by simpa using hsrc
      split at hv
      · rename_i n news hn
        have hyl : isLoc y = false := by
          unfold srcOk at hsrc'
          split at hsrc' <;> first | rfl | cases hsrc'
        have vy' := vy.v hyl
        obtain ⟨cnews, S, l1, l2, l3⟩ := newsOf_V h hn vy' hsrc'
        split at hv
        · -- onto nil
          have vx' := vx.v rfl
          cases vx'
          split at hv
          · rename_i h0
            cases hv
            subst h0
            have hc0 : cnews = [] := List.length_eq_zero_iff.1 (by omega)
            subst hc0
            exact ⟨m, β, _, w, _, ho _ _ (run_append_nothing w t tx o.type e j hd hj none 0 0 (Nat.le_refl _) cy S), .inl rfl, .inr (.inr .nils), Beh.refl h⟩
          · rename_i h0
            split at hv
            · rename_i hroom
              cases hv
              obtain ⟨f1, f2⟩ := nextcap_ok (need := n) (old := 0) (by omega) hroom
              have hrun := run_append_grow_src w t tx o.type e j z hd hj hz none 0 0 [] (run_firstCells_none w.drew _ 0 0 0) cy n cnews S (by omega) (by simpa using f2) (by simpa using f1)
              simp only [Nat.zero_add, List.nil_append] at hrun
              refine did_grown h (s.heap.push news j.size) j.size n (grownCap w n 0 e) rfl (push_sub _ _ _) (by rw [push_blk]) _ e ?_ (grownCap_ge _ _ _ _) ?_ rfl (drew_alloc_still _ _) (ho _ _ hrun)
              · rw [push_blk]
                have := Cells.app_zero (m := m) (old := []) (cold := []) rfl l1 (fun i x y hx => by simp at hx) l3 (Builtin.zeroCells z.cells (grownCap w n 0 e - n))
                simpa using this
              · have := grownCap_ge w n 0 e
                rw [Array.size_append, zeroCells_get, hzs, List.size_toArray, l1, l2, ← Nat.add_mul]
                rw [Nat.add_sub_cancel' this]
                exact Nat.le_refl _
            · cases hv
        · -- onto a slice
          rename_i id off len c
          have vx' := vx.v rfl
          cases vx' with
          | slc _ _ _ _ cap o' en he hle hc hoo htop =>
          split at hv
          · rename_i h0
            cases hv
            subst h0
            have hc0 : cnews = [] := List.length_eq_zero_iff.1 (by omega)
            subst hc0
            exact ⟨m, β, _, w, _, ho _ _ (run_append_nothing w t tx o.type e j hd hj _ len cap hle cy S), .inl rfl, .inr (.inr (.slc id off len c cap o' en he hle hc hoo htop)), Beh.refl h⟩
          · rename_i h0
            split at hv
            · rename_i hcond
              obtain ⟨hroom, hid, hes⟩ := hcond
              have hee : en.es = j.size := (h.h.es id en he hid).trans hes
              -- the cells that it has
              have hold : ∀ old, (len = 0 ∧ old = [] ∨ window (s.heap.blk id).cells off (len * j.size) = some old) → ∃ cold : List Value, cold.length = old.length ∧ old.length = len * j.size ∧
                  (∀ (i : Nat) x y, old[i]? = some x → cold[i]? = some y → one x = true ∧ V m x y) ∧
                  (Builtin.firstCells j.size len (.slice (some ⟨en.b, o', none⟩) len cap)).run P w.drew = .ok cold.toArray w.drew := by
                intro old ho2
                rcases ho2 with ⟨h1, rfl⟩ | hw
                · subst h1
                  exact ⟨[], rfl, by simp, fun i x y hx => by simp at hx, run_firstCells_some w.drew j.size 0 _ 0 cap [] (by simp) (fun k v hk => by simp at hk)⟩
                · by_cases hl0 : len = 0
                  · subst hl0
                    rw [Nat.zero_mul] at hw
                    obtain ⟨_, hl, _⟩ := window_some hw
                    have := List.length_eq_zero_iff.1 hl
                    subst this
                    exact ⟨[], rfl, by simp, fun i x y hx => by simp at hx, run_firstCells_some w.drew j.size 0 _ 0 cap [] (by simp) (fun k v hk => by simp at hk)⟩
                  have hcc : s.cellsAt (.pointer (some ⟨id, off, none⟩)) (len * j.size) = some old := by
                    show (if id < s.heap.size then _ else _) = _
                    rw [if_pos hid]
                    exact hw
                  obtain ⟨b, o2, cl, e1, e2, e3, e4, e5⟩ := cellsAt_V h (.inr (.inr (.ptr id off en he))) hcc
                  cases e1
                  have ho' : o' = en.s + off := hoo.resolve_right (by omega)
                  subst ho'
                  have hadd : ∀ j, (⟨en.b, en.s + off, none⟩ : Addr).add j = ⟨en.b, en.s + off + j, none⟩ := by intro j; unfold Addr.add; split <;> simp_all
                  exact ⟨cl, e2, e3, e5, run_firstCells_some w.drew j.size len _ len cap cl (by omega) (fun k v hk => by rw [hadd]; have := e4 k v hk; simpa using this)⟩
              -- laid anew
              have hnew : ∀ old (H' : Heap), (len = 0 ∧ old = [] ∨ window (s.heap.blk id).cells off (len * j.size) = some old) → cap < len + n → H'.size = s.heap.size + 1 → (∀ i, i < s.heap.size → Sub (H'.blk i) (s.heap.blk i)) →
                  (H'.blk s.heap.size).es = j.size → (H'.blk s.heap.size).cells = old ++ news → Did P o m β s a w (.slice (some ⟨s.heap.size, 0, none⟩) (len + n) 0) { s with heap := H' } := by
                intro old H' ho2 hlt hsz hsub he2 hcells
                obtain ⟨cold, c1, c2, c3, c4⟩ := hold old ho2
                obtain ⟨f1, f2⟩ := nextcap_ok (need := len + n) (old := cap) hlt hroom
                have hrun := run_append_grow_src w t tx o.type e j z hd hj hz (some ⟨en.b, o', none⟩) len cap cold c4 cy n cnews S hlt f2 f1
                refine did_grown h H' j.size (len + n) (grownCap w (len + n) cap e) hsz hsub he2 _ e ?_ (grownCap_ge _ _ _ _) ?_ rfl (drew_alloc_still _ _) (ho _ _ hrun)
                · rw [hcells]
                  exact Cells.app_zero c1 l1 c3 l3 _
                · have := grownCap_ge w (len + n) cap e
                  rw [Array.size_append, zeroCells_get, hzs, List.size_toArray, List.length_append, l1, l2, c1, c2, ← Nat.add_mul, ← Nat.add_mul]
                  rw [Nat.add_sub_cancel' this]
                  exact Nat.le_refl _
              -- in its own room, or laid anew
              have hany : ∀ old, (len = 0 ∧ old = [] ∨ window (s.heap.blk id).cells off (len * j.size) = some old) →
                  Did P o m β s a w (.slice (some ⟨s.heap.size, 0, none⟩) (len + n) 0) { s with heap := s.heap.grow id off (len * j.size) j.size news } := by
                intro old ho2
                have hgb : (s.heap.grow id off (len * j.size) j.size news).blk s.heap.size = ⟨((s.heap.blk id).cells.drop off).take (len * j.size) ++ news, j.size, (s.heap.blk id).root, (s.heap.blk id).roff + off⟩ := by
                  show (if s.heap.size < s.heap.size then Blk.zero else if s.heap.size = s.heap.size then _ else _) = _
                  rw [if_neg (by omega), if_pos rfl, if_pos (by omega)]
                have hgo : ∀ i, i < s.heap.size → (s.heap.grow id off (len * j.size) j.size news).blk i = (s.heap.blk i).cut (s.heap.blk id).root ((s.heap.blk id).roff + off + len * j.size) := by
                  intro i hi
                  show (if s.heap.size < i then Blk.zero else if i = s.heap.size then _ else _) = _
                  rw [if_neg (by omega), if_neg (by omega)]
                by_cases hfit : len + n ≤ cap
                · have ho' : o' = en.s + off := hoo.resolve_right (by omega)
                  subst ho'
                  have htop' := htop.resolve_right (by omega)
                  rw [hee] at htop'
                  obtain ⟨C, ty, f, k1, k2, k3, k4, k5⟩ := h.h.blk id en he
                  have hcapm : (len + n) * j.size ≤ cap * j.size := Nat.mul_le_mul_right _ hfit
                  rw [Nat.add_mul] at hcapm
                  have hcell : ∀ k, k < cnews.length → (w.cell? ⟨en.b, en.s + off + len * j.size + k, none⟩).isSome = true := by
                    intro k hk
                    have : en.s + off + len * j.size + k < C.size := by omega
                    simp [World.cell?, k1, this]
                  have hfr : ∀ k, k < cnews.length → w.frozen? ⟨en.b, en.s + off + len * j.size + k, none⟩ = false := by
                    intro k hk
                    have := k3 (en.s + off + len * j.size + k) (by omega) (by omega)
                    simp only [World.frozen?, k1]
                    simpa using this
                  have hrun := run_append_room_src w t tx o.type e j hd hj en.b (en.s + off) len cap cy n cnews S hfit hcell hfr
                  have hwin : off + len * j.size ≤ (s.heap.blk id).cells.length ∨ len * j.size = 0 := by
                    rcases ho2 with ⟨h1, _⟩ | hw
                    · right; rw [h1, Nat.zero_mul]
                    · exact .inl (window_some hw).1
                  obtain ⟨r1, r2, r3, r4⟩ := rel_grow h.h h.l he off (len * j.size) news cnews l1 hwin (by omega) l3
                  rw [hes] at r1 r2 r3 r4
                  refine ⟨_, _, _, _, _, ho _ _ hrun, .inl rfl, .inr (.inr ?_), ⟨r1, r2, r3, fun _ _ h => h, r4, Nat.le_succ _, Nat.le_refl _⟩⟩
                  refine V.slc s.heap.size 0 (len + n) 0 cap (en.s + off) ⟨en.b, en.s + off, j.size, en.top⟩ (put_same _ _ _) hfit (.inl rfl) (.inl (Nat.add_zero _).symm) (.inl ?_)
                  simp only [Nat.add_zero]
                  omega
                · refine hnew old _ ho2 (by omega) rfl (fun i hi => by rw [hgo i hi]; exact Sub.cut _ _ _) (by rw [hgb]) ?_
                  rw [hgb]
                  rcases ho2 with ⟨h1, rfl⟩ | hw
                  · subst h1; simp
                  · unfold window at hw
                    split at hw
                    · cases hw; rfl
                    · cases hw
              split at hv
              · rename_i hl0
                subst hl0
                split at hv
                · rename_i hc1
                  cases hv
                  have hcap : cap = 0 := by
                    rcases hc with hc | hc
                    · omega
                    · omega
                  have := hnew [] (s.heap.push news j.size) (.inl ⟨rfl, rfl⟩) (by omega) rfl (push_sub _ _ _) (by rw [push_blk]) (by rw [push_blk]; rfl)
                  simpa using this
                · cases hv
                  have := hany [] (.inl ⟨rfl, rfl⟩)
                  simpa using this
              · rename_i hl0
                split at hv
                · rename_i old hw
                  split at hv
                  · rename_i hcc
                    cases hv
                    have hcap : cap < len + n := by
                      rcases hc with hc | hc
                      · exact absurd hc hcc.1
                      · have := hcc.2; omega
                    exact hnew old _ (.inr hw) hcap rfl (push_sub _ _ _) (by rw [push_blk]) (by rw [push_blk])
                  · cases hv
                    exact hany old (.inr hw)
                · cases hv
            · cases hv
        · cases hv
      · cases hv
  · cases hv

end Go.Abs
