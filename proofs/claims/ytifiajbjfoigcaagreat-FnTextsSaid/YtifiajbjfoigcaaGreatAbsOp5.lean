/-
  THE ABSTRACT MACHINE AND THE MODEL: copy, make, conversions; then all operations in one theorem.
-/
import Derived.Test.YtifiajbjfoigcaaGreatAbsOp4
namespace Go.Abs
open Go
set_option linter.unusedSimpArgs false

theorem did_val {P : Program} {o : Oper} {m : Map} {β : LMap} {s : St} {a : Act} {w : World} (h : SR m β s a w) {v cv : Value} (hrun : (execOp a.eval o).run P w = .ok (.value cv) w) (hv : VL m β v cv) : Did P o m β s a w v s :=
  ⟨m, β, cv, w, _, hrun, .inl rfl, hv, Beh.refl h⟩

theorem slice_V {m : Map} {x cx : Value} {n : Nat} (h : sliceLen x = some n) (vx : V m x cx) : ∃ a c, cx = .slice a n c := by
  unfold sliceLen at h
  split at h
  · cases vx; cases h; exact ⟨_, _, rfl⟩
  · cases vx; cases h; exact ⟨_, _, rfl⟩
  · cases h

theorem sliceLen_loc {x : Value} {n : Nat} (h : sliceLen x = some n) : isLoc x = false := by
  unfold sliceLen at h
  split at h <;> first | rfl | cases h

theorem did_copy {P : Program} {o : Oper} {m : Map} {β : LMap} {s : St} {a : Act} {w : World} (h : SR m β s a w) {t tx : TypeId} {x y v : Value} {H : Heap} (hv : copy P s t x y = some (v, H))
    {cx cy : Value} (vx : VL m β x cx) (vy : VL m β y cy) (ho : ∀ v' w', (Builtin.copy_ #[t, tx] o.type #[cx, cy]).run P w = .ok v' w' → (execOp a.eval o).run P w = .ok (.value v') w') :
    Did P o m β s a w v { s with heap := H } := by
  unfold copy at hv
  split at hv
  · rename_i q1 q2 q3 e es by_ len n ht hlx hly
    obtain ⟨hd, j, z, hj, hz, hzs, rfl, rfl⟩ := TI_slice ht rfl
    have vx' := vx.v (sliceLen_loc hlx)
    have vy' := vy.v (sliceLen_loc hly)
    obtain ⟨ax, capx, hcx⟩ := slice_V hlx vx'
    obtain ⟨ay, capy, hcy⟩ := slice_V hly vy'
    split at hv
    · rename_i h0
      cases hv
      refine did_val h (ho _ _ ?_) (.inr (.inr (.int _ _)))
      subst hcx; subst hcy
      have hl : ∀ (x : Addr), (loadCells x 0).run P w = .ok #[] w := fun x => by simpa using run_loadCells_list (P := P) w x [] (by simp)
      have h0' : Nat.min n len = 0 := h0
      cases ax <;> cases ay <;> simp [Builtin.copy_, run_underlying hd, Builtin.lenOf, Builtin.firstCells, run_sz hj, h0', hl, goInt, storeCells]
    · rename_i h0
      split at hv
      · rename_i id off sp len' c' id2 off2 sp2 n' c2
        split at hv
        · rename_i hc
          obtain ⟨hid, hid2, hes, hb⟩ := hc
          cases hw : window (s.heap.blk id2).cells off2 (min n len * j.size) with
          | none => rw [hw] at hv; cases hv
          | some l =>
            rw [hw] at hv
            cases hv
            have e1 : len' = len ∧ sp = none := by
              unfold sliceLen at hlx
              split at hlx
              · rename_i e; cases e
              · rename_i e; cases e; cases hlx; exact ⟨rfl, rfl⟩
              · cases hlx
            have e2 : n' = n ∧ sp2 = none := by
              unfold sliceLen at hly
              split at hly
              · rename_i e; cases e
              · rename_i e; cases e; cases hly; exact ⟨rfl, rfl⟩
              · cases hly
            obtain ⟨rfl, rfl⟩ := e1
            obtain ⟨rfl, rfl⟩ := e2
            cases vx' with
            | slc _ _ _ _ cap o' en he hle hcc hoo htop =>
            cases vy' with
            | slc _ _ _ _ cap2 o2 en2 he2 hle2 hcc2 hoo2 htop2 =>
            have hmn : 0 < min n' len' := Nat.pos_of_ne_zero h0
            have ho1 : o' = en.s + off := hoo.resolve_right (by omega)
            have ho2 : o2 = en2.s + off2 := hoo2.resolve_right (by omega)
            subst ho1; subst ho2
            have hcell : s.cellsAt (.pointer (some ⟨id2, off2, none⟩)) (min n' len' * j.size) = some l := by
              show (if id2 < s.heap.size then _ else _) = _
              rw [if_pos hid2]
              exact hw
            obtain ⟨b, ob, cl, f1, f2, f3, f4, f5⟩ := cellsAt_V h (.inr (.inr (.ptr id2 off2 en2 he2))) hcell
            cases f1
            obtain ⟨C, ty, f, k1, k2, k3, k4, k5⟩ := h.h.blk id en he
            have hpos : 0 < min n' len' * j.size := Nat.mul_pos hmn hes
            have hin : en.s + off + min n' len' * j.size ≤ C.size := by
              obtain ⟨_, cv, hcv, _⟩ := k5 (off + min n' len' * j.size - 1) ((s.heap.blk id).cells[off + min n' len' * j.size - 1]'(by omega)) (by simp)
              have := (Array.getElem?_eq_some_iff.1 hcv).1
              omega
            have hone : ∀ u ∈ cl, u.oneCell' = true := by
              intro u hu
              obtain ⟨i, hi⟩ := List.getElem?_of_mem hu
              have hlt : i < l.length := by rw [← f2]; exact (List.getElem?_eq_some_iff.1 hi).1
              have := f5 i l[i] u (by simp [hlt]) hi
              exact one_oneCell u (this.2.one.trans this.1)
            have hadd : ∀ k, (⟨en2.b, en2.s + off2, none⟩ : Addr).add k = ⟨en2.b, en2.s + off2 + k, none⟩ := by intro k; unfold Addr.add; split <;> simp_all
            have hload := run_loadCells_list (P := P) w ⟨en2.b, en2.s + off2, none⟩ cl (fun k v hk => by rw [hadd]; exact f4 k v hk)
            have hst := run_storeCells_cells (P := P) en.b (en.s + off) cl 0 w
              (by intro k hk; have : en.s + off + k < C.size := by omega
                  simp [World.cell?, k1, this])
              (by intro k hk; have := k3 (en.s + off + k) (by omega) (by have := k2.1; omega)
                  simp only [World.frozen?, k1, Nat.add_zero]; simpa using this) hone
            rw [f2, f3] at hload
            obtain ⟨r1, r2, r3⟩ := rel_write h.h h.l he off l cl f2 (by rw [f3]; exact hb) f5
            refine ⟨m, β, _, _, _, ho _ _ ?_, .inl rfl, .inr (.inr (.int .i64 ((min n' len' : Nat) : Int))), ⟨r1, r2, Le.refl m, fun _ _ h => h, r3, Nat.le_refl _, Nat.le_refl _⟩⟩
            have hmin : Nat.min n' len' = min n' len' := rfl
            simp only [Nat.add_zero] at hst
            simp [Builtin.copy_, run_underlying hd, Builtin.lenOf, Builtin.firstCells, run_sz hj, hmin, hload, hst, goInt]
        · cases hv
      · cases hv
  · cases hv

theorem i64_in (n : Int) (h1 : -9223372036854775808 ≤ n) (h2 : n ≤ 9223372036854775807) : IntKind.i64.wrap n = n := by
  simp only [IntKind.wrap, IntKind.bits, IntKind.signed, Bool.true_and, decide_eq_true_eq, ge_iff_le]
  split <;> omega

theorem flatten_get (z : List Value) (hz : 0 < z.length) : ∀ (n i : Nat), i < n * z.length → (List.replicate n z).flatten[i]? = z[i % z.length]?
  | 0, i, h => by simp at h
  | n + 1, i, h => by
    rw [List.replicate_succ, List.flatten_cons, List.getElem?_append]
    split
    · rename_i hi
      rw [Nat.mod_eq_of_lt hi]
    · rename_i hi
      rw [Nat.add_mul, Nat.one_mul] at h
      rw [flatten_get z hz n (i - z.length) (by omega), ← Nat.mod_eq_sub_mod (by omega)]

theorem did_makeSlice {P : Program} {o : Oper} {m : Map} {β : LMap} {s : St} {a : Act} {w : World} (h : SR m β s a w) {t : TypeId} {l c : Operand} (ho : o.op = .makeSlice t l c) {v : Value} {H : Heap}
    (hv : makeSlice P s t (s.ev l) (s.ev c) = some (v, H)) : Did P o m β s a w v { s with heap := H } := by
  unfold makeSlice at hv
  split at hv
  · rename_i q1 q2 q3 e es by_ li ci ht hl hc
    obtain ⟨hd, j, z, hj, hz, hzs, rfl, rfl⟩ := TI_slice ht rfl
    split at hv
    · rename_i ti hti
      split at hv
      · rename_i hcond
        obtain ⟨c1, c2, c3, c4⟩ := hcond
        cases hv
        obtain ⟨i, d, z', hi, hd', hz', g1, g2, g3, g4, g5⟩ := TI_spec hti
        rw [hj] at hi; cases hi
        rw [hz] at hz'; cases hz'
        have vl := (h.eval l).v (by rw [hl]; rfl)
        have vc := (h.eval c).v (by rw [hc]; rfl)
        rw [hl] at vl; rw [hc] at vc
        have el := V.eq_flat0 rfl vl
        have ec := V.eq_flat0 rfl vc
        unfold roomMax at c4
        have cb : ci.toNat * j.bytes ≤ 2 ^ 44 := Nat.le_trans (Nat.mul_le_mul_left _ (by omega)) c4
        have cn : ci.toNat ≤ 2 ^ 44 := Nat.le_trans (by rw [Nat.mul_add]; omega) c4
        have hw1 : IntKind.i64.wrap li = li := i64_in _ (by omega) (by omega)
        have hw2 : IntKind.i64.wrap ci = ci := i64_in _ (by omega) (by omega)
        have hbi : (j.bytes : Int) * ci = ((ci.toNat * j.bytes : Nat) : Int) := by
          rw [Int.natCast_mul, Int.toNat_of_nonneg (by omega), Int.mul_comm]
        have hmono : li.toNat * j.size ≤ ci.toNat * j.size := Nat.mul_le_mul_right _ (by omega)
        have hCs : ((Array.range (ci.toNat * j.size)).map (z.cells[· % z.cells.size]!)).size = ci.toNat * j.size := by rw [Array.size_map, Array.size_range]
        have hzl : z.cells.toList.length = j.size := by simp [hzs]
        have hfl : (List.replicate li.toNat ti.zero).flatten.length = li.toNat * j.size := by rw [g3]; simp [hzs]
        refine did_row h _ j.size li.toNat ci.toNat ((Array.range (ci.toNat * j.size)).map (z.cells[· % z.cells.size]!)) e (0, 0) (free_zero _) ?_ (by omega) (by rw [hCs]; exact Nat.le_refl _) (w' := w.alloc _) rfl (alloc_still _ _) ?_
        · intro k x hx
          have hk : k < li.toNat * j.size := by rw [← hfl]; exact (List.getElem?_eq_some_iff.1 hx).1
          rw [g3, flatten_get z.cells.toList (by omega) _ _ (by rw [hzl]; exact hk), hzl] at hx
          have hmod : k % j.size < j.size := Nat.mod_lt _ c3
          have hfx := g5 x (List.mem_of_getElem? hx)
          refine ⟨flat0_one hfx, x, ?_, .of_flat0 hfx⟩
          rw [Nat.zero_add, Array.getElem?_map, Array.getElem?_range]
          rw [if_pos (by omega)]
          simp only [Option.map_some, hzs]
          rw [getElem!_pos z.cells (k % j.size) (by omega)]
          simp only [Array.getElem?_toList] at hx
          rw [← hx]
          simp [hzs, hmod]
        · unfold execOp
          simp only [ho, el, ec]
          apply run_v
          have t1 : ¬ ((j.bytes : Int) * ci > 281474976710656) := by rw [hbi]; omega
          have t2 : ¬ ci < 0 := by omega
          have t3 : ¬ li < 0 := by omega
          have t4 : ¬ li > ci := by omega
          have t5 : ¬ (ci.toNat * j.bytes > 140737488355328) := by omega
          by_cases hn0 : ci.toNat * j.size = 0
          · have hz0 : ((Array.range (ci.toNat * j.size)).map (z.cells[· % z.cells.size]!)) = #[] := Array.eq_empty_of_size_eq_zero (by rw [hCs]; exact hn0)
            have hz1 : ((Array.range 0).map ((#[] : Array Value)[· % (#[] : Array Value).size]!)) = #[] := Array.eq_empty_of_size_eq_zero (by rw [Array.size_map, Array.size_range])
            have hz2 : ((Array.range (ci.toNat * j.size)).map ((#[] : Array Value)[· % (#[] : Array Value).size]!)) = #[] := Array.eq_empty_of_size_eq_zero (by rw [Array.size_map, Array.size_range]; exact hn0)
            rw [hz0]
            simp [Instr.makeSlice, run_underlying hd, Go.asInt, asIntOf, run_ti hj, run_sz hj, hw1, hw2, t1, t2, t3, t4, askRoom, roomBytes, t5, hn0, newRow]
            have hz3 : Array.map (fun _ => (default : Value)) (Array.range 0) = #[] := Array.eq_empty_of_size_eq_zero (by rw [Array.size_map, Array.size_range])
            rw [hz3]
          · simp [Instr.makeSlice, run_underlying hd, Go.asInt, asIntOf, run_ti hj, run_sz hj, run_zero hj hz, hw1, hw2, t1, t2, t3, t4, askRoom, roomBytes, t5, hn0, newRow]
            try rfl
      · cases hv
    · cases hv
  · cases hv


theorem bytesOf_spec : ∀ (l : List Value) (bs : List UInt8), bytesOf l = some bs → ∃ ns : List Int, l = ns.map (Value.int .u8) ∧ bs = ns.map fun n => UInt8.ofNat n.toNat
  | [], bs, h => by cases h; exact ⟨[], rfl, rfl⟩
  | v :: r, bs, h => by
    unfold bytesOf at h
    split at h
    · rename_i e; cases e
    · rename_i n r' e
      cases e
      cases hr : bytesOf r with
      | none => rw [hr] at h; cases h
      | some b =>
        rw [hr] at h
        cases h
        obtain ⟨ns, rfl, rfl⟩ := bytesOf_spec r b hr
        exact ⟨n :: ns, rfl, rfl⟩
    · cases h

theorem push_fold : ∀ (ns : List Int) (s : ByteArray), ns.foldl (fun r n => r.push (UInt8.ofNat n.toNat)) s = ⟨s.data ++ (ns.map fun n => UInt8.ofNat n.toNat).toArray⟩
  | [], s => by obtain ⟨d⟩ := s; simp
  | n :: ns, s => by
    rw [List.foldl_cons, push_fold ns]
    obtain ⟨d⟩ := s
    simp [ByteArray.push]

theorem convert_loc {P : Program} {s : St} {src dst : TypeId} {x : Value} {r : Value × Heap} (h : convert P s src dst x = some r) : isLoc x = false := by
  unfold convert at h
  split at h <;> first | rfl | (cases h; done)

theorem did_convert {P : Program} {o : Oper} {m : Map} {β : LMap} {s : St} {a : Act} {w : World} (h : SR m β s a w) {src dst : TypeId} {x : Operand} (ho : o.op = .convert src dst x) {v : Value} {H : Heap}
    (hv : convert P s src dst (s.ev x) = some (v, H)) : Did P o m β s a w v { s with heap := H } := by
  have vx := (h.eval x).v (convert_loc hv)
  have hex : ∀ v' w', (Go.convert src dst (a.eval x)).run P w = .ok v' w' → (execOp a.eval o).run P w = .ok (.value v') w' := by
    intro v' w' hr
    unfold execOp
    simp only [ho]
    exact run_v hr
  generalize a.eval x = cx at vx hex
  generalize s.ev x = ax at vx hv
  unfold convert at hv
  split at hv
  · rename_i d k k' n hs hd
    cases V.eq_flat0 rfl vx
    cases hv
    refine did_val h (hex _ _ ?_) (.inr (.inr (.int _ _)))
    simp [Go.convert, run_underlying hd, run_underlying hs, Conv.intToInt]
  · rename_i n k hs hd
    cases V.eq_flat0 rfl vx
    cases hv
    refine did_val h (hex _ _ ?_) (.inr (.inr (.str _)))
    simp [Go.convert, run_underlying hd, run_underlying hs, Conv.intToString]
  · rename_i hs hd
    cases V.eq_flat0 rfl vx
    cases hv
    refine did_val h (hex _ _ ?_) (.inr (.inr (.str _)))
    simp [Go.convert, run_underlying hd, run_underlying hs]
  · rename_i e a0 l c hs hd
    split at hv
    · rename_i hc
      have he : P.underlying e = some (.int .u8) := by
        unfold isU8D at hc
        split at hc
        · assumption
        · cases hc
      split at hv
      · cases hv
        cases vx
        refine did_val h (hex _ _ ?_) (.inr (.inr (.str _)))
        rw [run_convert_bytes_string w src dst e none 0 0 hs he hd]
        simp [Conv.bytesToString]
      · rename_i id off
        cases vx with
        | slc _ _ _ _ cap o' en hen hle hcc hoo htop =>
        split at hv
        · rename_i h0
          cases hv
          subst h0
          refine did_val h (hex _ _ ?_) (.inr (.inr (.str _)))
          rw [run_convert_bytes_string w src dst e _ 0 cap hs he hd]
          have := run_bytesToString (P := P) w ⟨en.b, o', none⟩ 0 cap [] (by simpa using run_loadCells_list (P := P) w ⟨en.b, o', none⟩ [] (by simp))
          simpa using this
        · rename_i h0
          split at hv
          · rename_i hid
            split at hv
            · rename_i bs hbs
              cases hv
              cases hw : window (s.heap.blk id).cells off l with
              | none => rw [hw] at hbs; cases hbs
              | some cells =>
                rw [hw] at hbs
                obtain ⟨ns, rfl, rfl⟩ := bytesOf_spec cells bs hbs
                have hcell : s.cellsAt (.pointer (some ⟨id, off, none⟩)) l = some (ns.map (Value.int .u8)) := by
                  show (if id < s.heap.size then _ else _) = _
                  rw [if_pos hid]
                  exact hw
                obtain ⟨b, ob, cl, f1, f2, f3, f4, f5⟩ := cellsAt_V h (.inr (.inr (.ptr id off en hen))) hcell
                cases f1
                have ho1 : o' = en.s + off := hoo.resolve_right (by omega)
                subst ho1
                have hcl : cl = ns.map (Value.int .u8) := by
                  apply List.ext_getElem?
                  intro i
                  by_cases hi : i < cl.length
                  · have hi2 : i < (ns.map (Value.int .u8)).length := by omega
                    have := f5 i _ cl[i] (List.getElem?_eq_getElem hi2) (by simp [hi])
                    rw [List.getElem?_eq_getElem hi, List.getElem?_eq_getElem hi2]
                    congr 1
                    refine V.eq_flat0 ?_ this.2
                    simp [flat0]
                  · rw [List.getElem?_eq_none (by omega), List.getElem?_eq_none (by omega)]
                subst hcl
                have hadd : ∀ k, (⟨en.b, en.s + off, none⟩ : Addr).add k = ⟨en.b, en.s + off + k, none⟩ := by intro k; unfold Addr.add; split <;> simp_all
                have hload := run_loadCells_list (P := P) w ⟨en.b, en.s + off, none⟩ _ (fun k v hk => by rw [hadd]; exact f4 k v hk)
                rw [f2, f3] at hload
                refine did_val h (hex _ _ ?_) (.inr (.inr (.str _)))
                rw [run_convert_bytes_string w src dst e _ l cap hs he hd, run_bytesToString w _ l cap ns hload, push_fold]
                simp [ByteArray.empty, ByteArray.emptyWithCapacity]
                rfl
            · cases hv
          · cases hv
      · cases hv
    · cases hv
  · cases hv


/-- What the oracle says of a function holds of it. -/
def CallOK (P : Program) (f : FuncId) (args : Array Value) (H : Heap) (v : Value) (H' : Heap) : Prop :=
  ∀ (m : Map) (w : World) (cargs : Array Value), HRel m H w → args.size = cargs.size → (∀ (i : Nat) x y, args[i]? = some x → cargs[i]? = some y → V m x y) →
    Calls P f cargs w fun e w' => ∃ m' cv, e = .returned cv ∧ V m' v cv ∧ HRel m' H' w' ∧ Fr m (fun _ => none) H.size 0 w m' (fun _ => none) w' ∧ H.size ≤ H'.size

def hasBody (P : Program) (f : FuncId) : Prop := ∃ fn b, P.funcs[f]? = some fn ∧ fn.body = some b ∧ fn.name ≠ "runtime.NumGoroutine"

def Sound (P : Program) (C : Oracle) : Prop := ∀ f args H v H', C f args H = some (v, H') → hasBody P f ∧ CallOK P f args H v H'

theorem run_callFunc {P : Program} {f : FuncId} (h : hasBody P f) (args : Array Value) (w : World) : (callFunc f args).run P w = .ok (.enter f args) w := by
  obtain ⟨fn, b, h1, h2, h3⟩ := h
  have h3' : (fn.name == "runtime.NumGoroutine") = false := by simpa using h3
  unfold callFunc
  simp only [Sem.run_bind, run_program, Result.andThen_ok, h1, h3', Bool.false_eq_true, if_false, h2, Option.isNone_some, Sem.run_pure]

theorem map_cons {f : Operand → Value} {l : List Operand} {x : Value} {r : List Value} (h : l.map f = x :: r) : ∃ a l', l = a :: l' ∧ f a = x ∧ l'.map f = r := by
  cases l with
  | nil => cases h
  | cons a l' => cases h; exact ⟨a, l', rfl, rfl, rfl⟩

theorem map_nil' {f : Operand → Value} {l : List Operand} (h : l.map f = []) : l = [] := List.map_eq_nil_iff.1 h

theorem minmax_loc {mn : Bool} {x v : Value} {l : List Value} (h : minmax mn x l = some v) : isLoc x = false := by
  unfold minmax at h
  split at h <;> first | rfl | cases h

theorem did_builtin {P : Program} {o : Oper} {m : Map} {β : LMap} {s : St} {a : Act} {w : World} (h : SR m β s a w) {b : Builtin} {args : Array Operand} {ts : Array TypeId} (ho : o.op = .call ⟨.builtin b, args, ts⟩) {r : OpR}
    (hv : builtin P s o.dst b ts.toList (args.toList.map s.ev) = some r) : ∃ v s', r = .done (s'.put o.dst v) ∧ s'.env = s.env ∧ s'.nt = s.nt ∧ Did P o m β s a w v s' := by
  have hex : ∀ (q : Sem Value) v' w', q.run P w = .ok v' w' → (Go.builtin b ts o.type (args.map fun | .const _ => true | _ => false) (args.map a.eval) = do pure (.value (← q))) → (execOp a.eval o).run P w = .ok (.value v') w' := by
    intro q v' w' hr hb
    have : execOp a.eval o = (do let d ← resolve a.eval ⟨.builtin b, args, ts⟩ o.type; invoke d.target d.args) := by unfold execOp; simp only [ho]
    rw [this]
    simp only [resolve, Sem.run_bind, Sem.run_pure, Result.andThen_ok, invoke]
    refine Eq.trans (congrArg (fun q => Sem.run P q w) hb) ?_
    exact run_v hr
  have hargs : ∀ l : List Operand, args.toList = l → args.map a.eval = (l.map a.eval).toArray := by
    intro l hl
    apply Array.ext'
    simp [hl]
  have hmm : ∀ (mn : Bool) x l v, minmax mn x l = some v → ∀ (ox : Operand) (ol : List Operand), s.ev ox = x → ol.map s.ev = l →
      ((ol.map a.eval).foldlM (if mn then Builtin.min2 else Builtin.max2) (a.eval ox)).run P w = .ok v w ∧ flat0 v = true := by
    intro mn x l v hm ox ol e1 e2
    refine run_minmax mn (m := m) w l (ol.map a.eval) x (a.eval ox) v hm ?_ (by rw [← e2]; simp) ?_
    · rw [← e1]
      exact (h.eval ox).v (by rw [e1]; exact minmax_loc hm)
    · intro i p q hp hq
      rw [← e2] at hp
      simp only [List.getElem?_map] at hp hq
      cases hoi : ol[i]? with
      | none => rw [hoi] at hp; cases hp
      | some oi =>
        rw [hoi] at hp hq
        cases hp; cases hq
        exact (h.eval oi).isLoc_or
  unfold builtin at hv
  split at hv
  · rename_i t tx x y e1 e2
    obtain ⟨v, H, hv', rfl⟩ := valH_done hv
    obtain ⟨ox, l1, hl1, rfl, e3⟩ := map_cons e2
    obtain ⟨oy, l2, rfl, rfl, e4⟩ := map_cons e3
    obtain rfl := map_nil' e4
    have hts : ts = #[t, tx] := by apply Array.ext'; rw [e1]
    refine ⟨v, _, rfl, rfl, rfl, did_append h hv' (h.eval ox) (h.eval oy) fun v' w' hr => hex _ v' w' hr ?_⟩
    rw [hts, hargs _ hl1]
    rfl
  · rename_i t tx x y e1 e2
    obtain ⟨v, H, hv', rfl⟩ := valH_done hv
    obtain ⟨ox, l1, hl1, rfl, e3⟩ := map_cons e2
    obtain ⟨oy, l2, rfl, rfl, e4⟩ := map_cons e3
    obtain rfl := map_nil' e4
    have hts : ts = #[t, tx] := by apply Array.ext'; rw [e1]
    refine ⟨v, _, rfl, rfl, rfl, did_copy (tx := tx) h hv' (h.eval ox) (h.eval oy) fun v' w' hr => hex _ v' w' hr ?_⟩
    rw [hts, hargs _ hl1]
    rfl
  · rename_i t x e1 e2
    obtain ⟨v, hv', rfl⟩ := val_done hv
    obtain ⟨ox, l1, hl1, rfl, e3⟩ := map_cons e2
    obtain rfl := map_nil' e3
    have hts : ts = #[t] := by apply Array.ext'; rw [e1]
    have hlo : isLoc (s.ev ox) = false := by
      generalize s.ev ox = q at hv'
      unfold len at hv'
      split at hv' <;> first | rfl | cases hv'
    obtain ⟨r1, r2⟩ := run_len hv' ((h.eval ox).v hlo) o.type w
    refine ⟨v, s, rfl, rfl, rfl, did_val h (hex _ v w r1 ?_) (.inr (.inr (.of_flat0 r2)))⟩
    rw [hts, hargs _ hl1]
    rfl
  · rename_i x l e2
    obtain ⟨v, hv', rfl⟩ := val_done hv
    obtain ⟨ox, l1, hl1, e3, e4⟩ := map_cons e2
    obtain ⟨r1, r2⟩ := hmm true x l v hv' ox l1 e3 e4
    refine ⟨v, s, rfl, rfl, rfl, did_val h (hex _ v w r1 ?_) (.inr (.inr (.of_flat0 r2)))⟩
    rw [hargs _ hl1]
    rfl
  · rename_i x l e2
    obtain ⟨v, hv', rfl⟩ := val_done hv
    obtain ⟨ox, l1, hl1, e3, e4⟩ := map_cons e2
    obtain ⟨r1, r2⟩ := hmm false x l v hv' ox l1 e3 e4
    refine ⟨v, s, rfl, rfl, rfl, did_val h (hex _ v w r1 ?_) (.inr (.inr (.of_flat0 r2)))⟩
    rw [hargs _ hl1]
    rfl
  · cases hv

end Go.Abs
