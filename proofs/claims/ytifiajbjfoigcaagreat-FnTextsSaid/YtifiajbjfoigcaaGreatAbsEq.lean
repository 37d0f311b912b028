/-
  THE ABSTRACT MACHINE: its limit, and the equations that it keeps.
-/
import Derived.Test.YtifiajbjfoigcaaGreatAbsCall
namespace Go.Abs
open Go
set_option linter.unusedSimpArgs false

abbrev Table := FuncId → Option (Array Value → Heap → Option (Value × Heap))

def OLe (C C' : Oracle) : Prop := ∀ f args H r, C f args H = some r → C' f args H = some r

section
variable {P : Program} {T : Table} {ls : List Nat} {ops : Array Oper}

theorem evOp_mono {C C' : Oracle} (h : OLe C C') {o : Oper} {s s' : St} (he : evOp P C ls ops o s = some s') : evOp P C' ls ops o s = some s' := by
  unfold evOp at he ⊢
  split at he
  · rename_i hw
    split at he
    · rename_i t hop
      exact he
    · rename_i f args hop
      split at he
      · rename_i v H hc
        rw [h f args s.heap (v, H) hc]
        exact he
      · cases he
    · cases he
  · exact he
  · cases he

theorem evOps_mono {C C' : Oracle} (h : OLe C C') : ∀ (rest : List Oper) (s s' : St), evOps P C ls ops rest s = some s' → evOps P C' ls ops rest s = some s'
  | [], s, s', he => he
  | o :: rest, s, s', he => by
    unfold evOps at he ⊢
    split at he
    · rename_i s1 h1
      rw [evOp_mono h h1]
      exact evOps_mono h rest s1 s' he
    · cases he

theorem evDraw_mono {ms : List Nat} {C C' : Oracle} (h : OLe C C') : ∀ (rest : List Oper) (fs : List Foot) (s s' : St), evDraw P C ls ops ms fs rest s = some s' → evDraw P C' ls ops ms fs rest s = some s'
  | [], fs, s, s', he => he
  | o :: rest, fs, s, s', he => by
    unfold evDraw at he ⊢
    split at he
    · rename_i s1 h1
      rw [evOp_mono h h1]
      split at he
      · rename_i f hf
        simp only [hf]
        split at he
        · rename_i hd
          rw [if_pos hd]
          exact evDraw_mono h rest (fs ++ [f]) s1 s' he
        · cases he
      · cases he
    · cases he

theorem loopN_mono {f g : St → Option Res} (h : ∀ s r, f s = some r → g s = some r) : ∀ (n k : Nat) (s : St) (r : Res), n ≤ k → loopN f n s = some r → loopN g k s = some r
  | 0, _, _, _, _, he => by cases he
  | n + 1, k, s, r, hk, he => by
    obtain ⟨k, rfl⟩ : ∃ j, k = j + 1 := ⟨k - 1, by omega⟩
    unfold loopN at he ⊢
    cases hf : f s with
    | none => rw [hf] at he; cases he
    | some q =>
      rw [hf] at he
      rw [h s q hf]
      cases q with
      | norm s' => exact loopN_mono h n k s' r (by omega) he
      | exit id s' => exact he
      | ret s' => exact he

theorem evCode_mono {C C' : Oracle} (h : OLe C C') {n k : Nat} (hk : n ≤ k) : ∀ (c : Code) (s : St) (r : Res), evCode P C n ls c s = some r → evCode P C' k ls c s = some r := by
  intro c
  induction c with
  | region id ops draw =>
    intro s r he
    unfold evCode at he ⊢
    split at he
    · rename_i hd
      rw [if_pos hd]
      cases h1 : evDraw P C ls ops (masks ops.toList) [] ops.toList s with
      | none => rw [h1] at he; cases he
      | some s' => rw [h1] at he; rw [evDraw_mono h _ _ _ _ h1]; exact he
    · rename_i hd
      rw [if_neg hd]
      cases h1 : evOps P C ls ops ops.toList s with
      | none => rw [h1] at he; cases he
      | some s' => rw [h1] at he; rw [evOps_mono h _ _ _ h1]; exact he
  | seq x y ihx ihy =>
    intro s r he
    unfold evCode at he ⊢
    cases hx : evCode P C n ls x s with
    | none => rw [hx] at he; cases he
    | some q =>
      rw [hx] at he
      rw [ihx s q hx]
      cases q with
      | norm s' => exact ihy s' r he
      | exit id s' => exact he
      | ret s' => exact he
  | cond c x y ihx ihy =>
    intro s r he
    unfold evCode at he ⊢
    split at he
    · rename_i t hc
      cases t with
      | true => exact ihx s r he
      | false => exact ihy s r he
    · cases he
  | block id x ih =>
    intro s r he
    unfold evCode at he ⊢
    cases hx : evCode P C n ls x s with
    | none => rw [hx] at he; cases he
    | some q => rw [hx] at he; rw [ih s q hx]; exact he
  | loop x ih =>
    intro s r he
    unfold evCode at he ⊢
    exact loopN_mono (fun s r h => ih s r h) n k s r hk he
  | skip => intro s r he; exact he
  | label l => intro s r he; exact he
  | exit id => intro s r he; exact he
  | ret => intro s r he; exact he
  | _ => intro s r he; cases he

theorem ev_mono1 (P : Program) (T : Table) : ∀ n, OLe (ev P T n) (ev P T (n + 1))
  | 0 => fun f args H r h => by cases h
  | n + 1 => fun f args H r h => by
    have ih := ev_mono1 P T n
    rw [ev] at h
    rw [ev]
    split at h
    · exact h
    · split at h
      · cases h
      · split at h
        · cases h
        · split at h
          · cases h
          · rename_i hc
            rw [if_neg hc]
            split at h
            · rename_i s hs
              rw [evCode_mono ih (Nat.le_succ n) _ _ _ hs]
              exact h
            · rename_i s hs
              rw [evCode_mono ih (Nat.le_succ n) _ _ _ hs]
              exact h
            · cases h

theorem ev_mono (P : Program) (T : Table) {n k : Nat} (h : n ≤ k) : OLe (ev P T n) (ev P T k) := by
  induction k with
  | zero =>
    obtain rfl : n = 0 := by omega
    exact fun _ _ _ _ h => h
  | succ k ih =>
    rcases Nat.lt_or_ge n (k + 1) with hlt | hge
    · exact fun f args H r hr => ev_mono1 P T k f args H r (ih (by omega) f args H r hr)
    · obtain rfl : n = k + 1 := by omega
      exact fun _ _ _ _ h => h

open Classical in
/-- What a call comes to. -/
noncomputable def evF (P : Program) (T : Table) : Oracle := fun f args H =>
  if h : ∃ r n, ev P T n f args H = some r then some (Classical.choose h) else none

theorem evF_iff {f : FuncId} {args : Array Value} {H : Heap} {r : Value × Heap} : evF P T f args H = some r ↔ ∃ n, ev P T n f args H = some r := by
  unfold evF
  constructor
  · intro h
    split at h
    · rename_i hh
      have := Classical.choose_spec hh
      cases h
      exact this
    · cases h
  · rintro ⟨n, hn⟩
    have hh : ∃ r n, ev P T n f args H = some r := ⟨r, n, hn⟩
    rw [dif_pos hh]
    obtain ⟨k, hk⟩ := Classical.choose_spec hh
    have e1 := ev_mono P T (Nat.le_max_left n k) f args H _ hn
    have e2 := ev_mono P T (Nat.le_max_right n k) f args H _ hk
    rw [e1] at e2
    cases e2
    rfl

theorem ev_le (n : Nat) : OLe (ev P T n) (evF P T) := fun _ _ _ _ h => evF_iff.2 ⟨n, h⟩

theorem evOp_cont {o : Oper} {s s' : St} (he : evOp P (evF P T) ls ops o s = some s') : ∃ n, evOp P (ev P T n) ls ops o s = some s' := by
  unfold evOp at he ⊢
  split at he
  · split at he
    · exact ⟨0, he⟩
    · rename_i f args hop
      split at he
      · rename_i v H hc
        obtain ⟨n, hn⟩ := evF_iff.1 hc
        refine ⟨n, ?_⟩
        simp only [hn]
        exact he
      · cases he
    · cases he
  · exact ⟨0, he⟩
  · cases he

theorem evOps_cont : ∀ (rest : List Oper) (s s' : St), evOps P (evF P T) ls ops rest s = some s' → ∃ n, evOps P (ev P T n) ls ops rest s = some s'
  | [], s, s', he => ⟨0, he⟩
  | o :: rest, s, s', he => by
    unfold evOps at he
    split at he
    · rename_i s1 h1
      obtain ⟨n, hn⟩ := evOp_cont h1
      obtain ⟨k, hk⟩ := evOps_cont rest s1 s' he
      refine ⟨max n k, ?_⟩
      unfold evOps
      rw [evOp_mono (ev_mono P T (Nat.le_max_left n k)) hn]
      exact evOps_mono (ev_mono P T (Nat.le_max_right n k)) _ _ _ hk
    · cases he

theorem evDraw_cont {ms : List Nat} : ∀ (rest : List Oper) (fs : List Foot) (s s' : St), evDraw P (evF P T) ls ops ms fs rest s = some s' → ∃ n, evDraw P (ev P T n) ls ops ms fs rest s = some s'
  | [], fs, s, s', he => ⟨0, he⟩
  | o :: rest, fs, s, s', he => by
    unfold evDraw at he
    split at he
    · rename_i s1 h1
      split at he
      · rename_i f hf
        split at he
        · rename_i hd
          obtain ⟨n, hn⟩ := evOp_cont h1
          obtain ⟨k, hk⟩ := evDraw_cont rest (fs ++ [f]) s1 s' he
          refine ⟨max n k, ?_⟩
          unfold evDraw
          rw [evOp_mono (ev_mono P T (Nat.le_max_left n k)) hn]
          simp only [hf, hd, if_true]
          exact evDraw_mono (ev_mono P T (Nat.le_max_right n k)) _ _ _ _ hk
        · cases he
      · cases he
    · cases he

open Classical in
/-- What code comes to. -/
noncomputable def evC (P : Program) (T : Table) (ls : List Nat) (c : Code) (s : St) : Option Res :=
  if h : ∃ r n, evCode P (ev P T n) n ls c s = some r then some (Classical.choose h) else none

theorem evC_iff {c : Code} {s : St} {r : Res} : evC P T ls c s = some r ↔ ∃ n, evCode P (ev P T n) n ls c s = some r := by
  unfold evC
  constructor
  · intro h
    split at h
    · rename_i hh
      have := Classical.choose_spec hh
      cases h
      exact this
    · cases h
  · rintro ⟨n, hn⟩
    have hh : ∃ r n, evCode P (ev P T n) n ls c s = some r := ⟨r, n, hn⟩
    rw [dif_pos hh]
    obtain ⟨k, hk⟩ := Classical.choose_spec hh
    have e1 := evCode_mono (ev_mono P T (Nat.le_max_left n k)) (Nat.le_max_left n k) c s _ hn
    have e2 := evCode_mono (ev_mono P T (Nat.le_max_right n k)) (Nat.le_max_right n k) c s _ hk
    rw [e1] at e2
    cases e2
    rfl

theorem opt_ext {α : Type} {a b : Option α} (h : ∀ r, a = some r ↔ b = some r) : a = b := by
  cases a with
  | none =>
    cases b with
    | none => rfl
    | some r => exact ((h r).2 rfl)
  | some r => exact ((h r).1 rfl).symm

theorem evC_skip (s : St) : evC P T ls .skip s = some (.norm s) := evC_iff.2 ⟨0, rfl⟩
theorem evC_label (l : Nat) (s : St) : evC P T ls (.label l) s = some (.norm s) := evC_iff.2 ⟨0, rfl⟩
theorem evC_exit (id : Nat) (s : St) : evC P T ls (.exit id) s = some (.exit id s) := evC_iff.2 ⟨0, rfl⟩
theorem evC_ret (s : St) : evC P T ls .ret s = some (.ret s) := evC_iff.2 ⟨0, rfl⟩

theorem evC_region (id : Nat) (ops : Array Oper) (s : St) : evC P T ls (.region id ops false) s = normO (evOps P (evF P T) ls ops ops.toList s) := by
  apply opt_ext
  intro r
  rw [evC_iff]
  constructor
  · rintro ⟨n, hn⟩
    simp only [evCode, Bool.false_eq_true, if_false] at hn
    cases h : evOps P (ev P T n) ls ops ops.toList s with
    | none => rw [h] at hn; cases hn
    | some s' => rw [h] at hn; rw [evOps_mono (ev_le n) _ _ _ h]; exact hn
  · intro h
    cases h1 : evOps P (evF P T) ls ops ops.toList s with
    | none => rw [h1] at h; cases h
    | some s' =>
      rw [h1] at h
      obtain ⟨n, hn⟩ := evOps_cont _ _ _ h1
      refine ⟨n, ?_⟩
      simp only [evCode, Bool.false_eq_true, if_false, hn]
      exact h

theorem evC_draw (id : Nat) (ops : Array Oper) (s : St) : evC P T ls (.region id ops true) s = normO (evDraw P (evF P T) ls ops (masks ops.toList) [] ops.toList s) := by
  apply opt_ext
  intro r
  rw [evC_iff]
  constructor
  · rintro ⟨n, hn⟩
    simp only [evCode, if_true] at hn
    cases h : evDraw P (ev P T n) ls ops (masks ops.toList) [] ops.toList s with
    | none => rw [h] at hn; cases hn
    | some s' => rw [h] at hn; rw [evDraw_mono (ev_le n) _ _ _ _ h]; exact hn
  · intro h
    cases h1 : evDraw P (evF P T) ls ops (masks ops.toList) [] ops.toList s with
    | none => rw [h1] at h; cases h
    | some s' =>
      rw [h1] at h
      obtain ⟨n, hn⟩ := evDraw_cont _ _ _ _ h1
      refine ⟨n, ?_⟩
      simp only [evCode, if_true, hn]
      exact h

theorem evC_seq (a b : Code) (s : St) : evC P T ls (.seq a b) s = evSeq (evC P T ls b) (evC P T ls a s) := by
  apply opt_ext
  intro r
  rw [evC_iff]
  constructor
  · rintro ⟨n, hn⟩
    simp only [evCode] at hn
    cases h : evCode P (ev P T n) n ls a s with
    | none => rw [h] at hn; cases hn
    | some q =>
      rw [h] at hn
      rw [evC_iff.2 ⟨n, h⟩]
      cases q with
      | norm s' => exact evC_iff.2 ⟨n, hn⟩
      | exit id s' => exact hn
      | ret s' => exact hn
  · intro h
    cases h1 : evC P T ls a s with
    | none => rw [h1] at h; cases h
    | some q =>
      rw [h1] at h
      obtain ⟨n, hn⟩ := evC_iff.1 h1
      cases q with
      | norm s' =>
        obtain ⟨k, hk⟩ := evC_iff.1 h
        refine ⟨max n k, ?_⟩
        simp only [evCode, evCode_mono (ev_mono P T (Nat.le_max_left n k)) (Nat.le_max_left n k) a s _ hn]
        exact evCode_mono (ev_mono P T (Nat.le_max_right n k)) (Nat.le_max_right n k) b s' _ hk
      | exit id s' => exact ⟨n, by simp only [evCode, hn]; exact h⟩
      | ret s' => exact ⟨n, by simp only [evCode, hn]; exact h⟩

theorem evC_cond (c : Operand) (a b : Code) (s : St) : evC P T ls (.cond c a b) s = match s.ev c with
    | .bool t => if t then evC P T ls a s else evC P T ls b s
    | _ => none := by
  apply opt_ext
  intro r
  rw [evC_iff]
  simp only [evCode]
  cases s.ev c with
  | bool t => cases t <;> simp only [Bool.false_eq_true, if_false, if_true, evC_iff]
  | _ => constructor <;> first | (rintro ⟨n, hn⟩; cases hn) | (intro h; cases h)

theorem evC_block (id : Nat) (a : Code) (s : St) : evC P T ls (.block id a) s = evBlk id (evC P T ls a s) := by
  apply opt_ext
  intro r
  rw [evC_iff]
  constructor
  · rintro ⟨n, hn⟩
    simp only [evCode] at hn
    cases h : evCode P (ev P T n) n ls a s with
    | none => rw [h] at hn; cases hn
    | some q => rw [h] at hn; rw [evC_iff.2 ⟨n, h⟩]; exact hn
  · intro h
    cases h1 : evC P T ls a s with
    | none => rw [h1] at h; cases h
    | some q =>
      rw [h1] at h
      obtain ⟨n, hn⟩ := evC_iff.1 h1
      exact ⟨n, by simp only [evCode, hn]; exact h⟩

/-- A loop's round. -/
def evRound (k : St → Option Res) : Option Res → Option Res
  | some (.norm s) => k s
  | r => r

theorem evC_loop (a : Code) (s : St) : evC P T ls (.loop a) s = evSeq (evC P T ls (.loop a)) (evC P T ls a s) := by
  apply opt_ext
  intro r
  rw [evC_iff]
  constructor
  · rintro ⟨n, hn⟩
    simp only [evCode] at hn
    cases n with
    | zero => cases hn
    | succ n =>
      unfold loopN at hn
      cases h : evCode P (ev P T (n + 1)) (n + 1) ls a s with
      | none => rw [h] at hn; cases hn
      | some q =>
        rw [h] at hn
        rw [evC_iff.2 ⟨_, h⟩]
        cases q with
        | norm s' => exact evC_iff.2 ⟨n + 1, by simp only [evCode]; exact loopN_mono (fun _ _ h => h) n (n + 1) s' r (Nat.le_succ n) hn⟩
        | exit id s' => exact hn
        | ret s' => exact hn
  · intro h
    cases h1 : evC P T ls a s with
    | none => rw [h1] at h; cases h
    | some q =>
      rw [h1] at h
      obtain ⟨n, hn⟩ := evC_iff.1 h1
      cases q with
      | norm s' =>
        obtain ⟨k, hk⟩ := evC_iff.1 h
        refine ⟨max n k + 1, ?_⟩
        have e1 := evCode_mono (ev_mono P T (show n ≤ max n k + 1 by omega)) (show n ≤ max n k + 1 by omega) a s _ hn
        simp only [evCode] at hk ⊢
        unfold loopN
        rw [e1]
        exact loopN_mono (fun s r h => evCode_mono (ev_mono P T (show k ≤ max n k + 1 by omega)) (show k ≤ max n k + 1 by omega) a s r h) k (max n k) s' r (by omega) hk
      | exit id s' =>
        refine ⟨n + 1, ?_⟩
        have e1 := evCode_mono (ev_mono P T (Nat.le_succ n)) (Nat.le_succ n) a s _ hn
        simp only [evCode]
        unfold loopN
        rw [e1]
        exact h
      | ret s' =>
        refine ⟨n + 1, ?_⟩
        have e1 := evCode_mono (ev_mono P T (Nat.le_succ n)) (Nat.le_succ n) a s _ hn
        simp only [evCode]
        unfold loopN
        rw [e1]
        exact h

/-- What a body's end makes of a call. -/
noncomputable def fin (P : Program) (rs : List ResultVar) (H : Heap) : Option Res → Option (Value × Heap)
  | some (.norm s) | some (.ret s) => match resultsOf P s rs with
    | some v => some (v, gc H v s.heap)
    | none => none
  | _ => none

theorem evF_eq {f : FuncId} (hT : T f = none) {fn : Func} (hf : P.funcs[f]? = some fn) {body : Code} (hb : fn.body = some body) (hn : fn.name ≠ "runtime.NumGoroutine") {args : Array Value} (ha : args.size ≤ fn.ntmps) (hd : drawsOk body = true) (H : Heap) :
    evF P T f args H = fin P fn.results.toList H (evC P T (localsOf fn) body ⟨env0 args, fun _ => [], 0, H, fn.ntmps⟩) := by
  have hc : ¬ (fn.name = "runtime.NumGoroutine" ∨ fn.ntmps < args.size ∨ drawsOk body = false) := fun h => h.elim hn fun h => h.elim (fun h => by omega) (fun h => by rw [hd] at h; cases h)
  apply opt_ext
  intro r
  rw [evF_iff]
  constructor
  · rintro ⟨n, h⟩
    cases n with
    | zero => cases h
    | succ n =>
      simp only [ev, hT, hf, hb, if_neg hc] at h
      cases h1 : evCode P (ev P T n) n (localsOf fn) body ⟨env0 args, fun _ => [], 0, H, fn.ntmps⟩ with
      | none => rw [h1] at h; cases h
      | some q =>
        rw [h1] at h
        rw [evC_iff.2 ⟨n, h1⟩]
        cases q <;> exact h
  · intro h
    cases h1 : evC P T (localsOf fn) body ⟨env0 args, fun _ => [], 0, H, fn.ntmps⟩ with
    | none => rw [h1] at h; cases h
    | some q =>
      rw [h1] at h
      obtain ⟨n, hn⟩ := evC_iff.1 h1
      refine ⟨n + 1, ?_⟩
      simp only [ev, hT, hf, hb, if_neg hc, hn]
      cases q <;> exact h

theorem evF_given {f : FuncId} {g : Array Value → Heap → Option (Value × Heap)} (hT : T f = some g) (args : Array Value) (H : Heap) : evF P T f args H = g args H := by
  apply opt_ext
  intro r
  rw [evF_iff]
  constructor
  · rintro ⟨n, h⟩
    cases n with
    | zero => cases h
    | succ n => simpa only [ev, hT] using h
  · intro h
    exact ⟨1, by simpa only [ev, hT] using h⟩

/-- What the limit says of a call holds of it. -/
theorem evF_sound (hm : P.follows .mixedOrders = true) (hT : Given P T) : Sound P (evF P T) := fun f args H v H' h => by
  obtain ⟨n, hn⟩ := evF_iff.1 h
  exact ev_sound hm hT n f args H v H' hn

end
end Go.Abs
