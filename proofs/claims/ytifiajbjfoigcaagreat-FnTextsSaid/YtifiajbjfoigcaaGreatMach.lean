/-
  THE ABSTRACT MACHINE, WALKED FROM ITS ROOT: the code that waits stands in frames, the goal is a proposition on one state, and each rule of simp
  rewrites its head.
-/
import Derived.Test.YtifiajbjfoigcaaGreatAbsMem
import Derived.Test.YtifiajbjfoigcaaGreatAbsInt
namespace Go.Abs
open Go
set_option linter.unusedSimpArgs false

inductive Frame where
  | seq (c : Code)
  | blk (id : Nat)
  | inv (J : St → Prop)

/-- What is static of a walk: variables of the frame, results, the heap at the call, the post, the frames. -/
class Stk where
  ls : List Nat
  rs : List ResultVar
  H0 : Heap
  post : Value → Heap → Prop
  fr : List Frame

class CodeS where
  c : Code
class OpsS where
  ops : Array Oper
  rest : List Oper
class OperS where
  o : Oper

section
variable (P : Program) (T : Table)

def after (ls : List Nat) (rs : List ResultVar) (H0 : Heap) (post : Value → Heap → Prop) : List Frame → Option Res → Prop
  | [], r => ∃ v H, fin P rs H0 r = some (v, H) ∧ post v H
  | .seq c :: fr, r => after ls rs H0 post fr (evSeq (evC P T ls c) r)
  | .blk id :: fr, r => after ls rs H0 post fr (evBlk id r)
  | .inv J :: fr, r => match r with
    | some (.norm s) => J s
    | r => after ls rs H0 post fr r

/-- Code is to be run. -/
def mC [k : Stk] [c : CodeS] (s : St) : Prop := after P T k.ls k.rs k.H0 k.post k.fr (evC P T k.ls c.c s)
/-- Code has come to an end. -/
def mR [k : Stk] (r : Res) : Prop := after P T k.ls k.rs k.H0 k.post k.fr (some r)
/-- Operations are to be run. -/
def mO [k : Stk] [o : OpsS] (s : St) : Prop := after P T k.ls k.rs k.H0 k.post k.fr (normO (evOps P (evF P T) k.ls o.ops o.rest s))
/-- One has been run. -/
def mG [k : Stk] [o : OpsS] : Option St → Prop
  | some s => mO P T s
  | none => False
/-- The same of a region whose order is drawn. -/
def mD [k : Stk] [o : OpsS] (fs : List Foot) (s : St) : Prop := after P T k.ls k.rs k.H0 k.post k.fr (normO (evDraw P (evF P T) k.ls o.ops (masks o.ops.toList) fs o.rest s))
def mDG [k : Stk] [o : OpsS] [p : OperS] (fs : List Foot) (s : St) : Option St → Prop
  | some s' => match foot k.ls p.o s s' with
    | some f => agree (masks o.ops.toList) fs f = true ∧ mD P T (fs ++ [f]) s'
    | none => False
  | none => False
def mDF [k : Stk] [o : OpsS] (fs : List Foot) (s' : St) : Option Foot → Prop
  | some f => agree (masks o.ops.toList) fs f = true ∧ mD P T (fs ++ [f]) s'
  | none => False
def mIf [k : Stk] (v : Value) [h : Two Prop] : Prop := match v with
  | .bool b => pend b
  | _ => False
def mWant (want : Bool) (g : Option Value) [h : Two Prop] : Prop := match g with
  | some (.bool b) => pend (b == want)
  | some (.tuple _) => h.b
  | _ => False
def mEnd [k : Stk] (H : Heap) : Option Value → Prop
  | some v => k.post v (gc k.H0 v H)
  | none => False
end

section
variable {P : Program} {T : Table} {ls : List Nat} {rs : List ResultVar} {H0 : Heap} {post : Value → Heap → Prop} {fr : List Frame} {ops : Array Oper} {rest : List Oper} {s s' : St}

theorem after_none : ∀ fr : List Frame, ¬ after P T ls rs H0 post fr none
  | [], ⟨v, H, h, _⟩ => by cases h
  | .seq c :: fr, h => after_none fr h
  | .blk id :: fr, h => after_none fr h
  | .inv J :: fr, h => after_none fr h

@[simp] theorem mC_skip : @mC P T ⟨ls, rs, H0, post, fr⟩ ⟨.skip⟩ s = @mR P T ⟨ls, rs, H0, post, fr⟩ (.norm s) := congrArg (after P T ls rs H0 post fr) (evC_skip s)
@[simp] theorem mC_label (l : Nat) : @mC P T ⟨ls, rs, H0, post, fr⟩ ⟨.label l⟩ s = @mR P T ⟨ls, rs, H0, post, fr⟩ (.norm s) := congrArg (after P T ls rs H0 post fr) (evC_label l s)
@[simp] theorem mC_exit (i : Nat) : @mC P T ⟨ls, rs, H0, post, fr⟩ ⟨.exit i⟩ s = @mR P T ⟨ls, rs, H0, post, fr⟩ (.exit i s) := congrArg (after P T ls rs H0 post fr) (evC_exit i s)
@[simp] theorem mC_ret : @mC P T ⟨ls, rs, H0, post, fr⟩ ⟨.ret⟩ s = @mR P T ⟨ls, rs, H0, post, fr⟩ (.ret s) := congrArg (after P T ls rs H0 post fr) (evC_ret s)
@[simp] theorem mC_seq (a b : Code) : @mC P T ⟨ls, rs, H0, post, fr⟩ ⟨.seq a b⟩ s = @mC P T ⟨ls, rs, H0, post, .seq b :: fr⟩ ⟨a⟩ s := congrArg (after P T ls rs H0 post fr) (evC_seq a b s)
@[simp] theorem mC_block (i : Nat) (a : Code) : @mC P T ⟨ls, rs, H0, post, fr⟩ ⟨.block i a⟩ s = @mC P T ⟨ls, rs, H0, post, .blk i :: fr⟩ ⟨a⟩ s := congrArg (after P T ls rs H0 post fr) (evC_block i a s)
@[simp] theorem mC_cond (c : Operand) (a b : Code) : @mC P T ⟨ls, rs, H0, post, fr⟩ ⟨.cond c a b⟩ s =
    @mIf ⟨ls, rs, H0, post, fr⟩ (s.ev c) ⟨@mC P T ⟨ls, rs, H0, post, fr⟩ ⟨a⟩ s, @mC P T ⟨ls, rs, H0, post, fr⟩ ⟨b⟩ s⟩ := by
  refine (congrArg (after P T ls rs H0 post fr) (evC_cond c a b s)).trans ?_
  unfold mIf
  generalize s.ev c = v
  cases v with
  | bool t => cases t <;> rfl
  | _ => exact eq_false (after_none fr)
@[simp] theorem mIf_bool [k : Stk] (b : Bool) (x y : Prop) : @mIf k (.bool b) ⟨x, y⟩ = @pend Prop b ⟨x, y⟩ := rfl
@[simp] theorem mWant_true (b : Bool) (x y : Prop) : @mWant true (some (.bool b)) ⟨x, y⟩ = @pend Prop b ⟨x, y⟩ := by cases b <;> rfl
@[simp] theorem mWant_false (b : Bool) (x y : Prop) : @mWant false (some (.bool b)) ⟨x, y⟩ = @pend Prop b ⟨y, x⟩ := by cases b <;> rfl
@[simp] theorem mWant_undef (want : Bool) (vs : Array Value) (x y : Prop) : @mWant want (some (.tuple vs)) ⟨x, y⟩ = y := rfl
@[simp] theorem locOf_undef : locOf undef = none := rfl
@[simp] theorem mWant_undef' (want : Bool) (x y : Prop) : @mWant want (some undef) ⟨x, y⟩ = y := rfl
theorem pendP {p : Prop} [Decidable p] {x y : Prop} (h1 : p → x) (h2 : ¬ p → y) : @pend Prop (decide p) ⟨x, y⟩ := by
  by_cases h : p
  · rw [decide_eq_true h]; exact h1 h
  · rw [decide_eq_false h]; exact h2 h
theorem pendB {b : Bool} {x y : Prop} (h1 : b = true → x) (h2 : b = false → y) : @pend Prop b ⟨x, y⟩ := by
  cases b
  · exact h2 rfl
  · exact h1 rfl

@[simp] theorem mC_region (i : Nat) : @mC P T ⟨ls, rs, H0, post, fr⟩ ⟨.region i ops false⟩ s = @mO P T ⟨ls, rs, H0, post, fr⟩ ⟨ops, ops.toList⟩ s := congrArg (after P T ls rs H0 post fr) (evC_region i ops s)
@[simp] theorem mC_draw (i : Nat) : @mC P T ⟨ls, rs, H0, post, fr⟩ ⟨.region i ops true⟩ s = @mD P T ⟨ls, rs, H0, post, fr⟩ ⟨ops, ops.toList⟩ [] s := congrArg (after P T ls rs H0 post fr) (evC_draw i ops s)

@[simp] theorem mR_norm_seq (c : Code) : @mR P T ⟨ls, rs, H0, post, .seq c :: fr⟩ (.norm s) = @mC P T ⟨ls, rs, H0, post, fr⟩ ⟨c⟩ s := rfl
@[simp] theorem mR_exit_seq (c : Code) (i : Nat) : @mR P T ⟨ls, rs, H0, post, .seq c :: fr⟩ (.exit i s) = @mR P T ⟨ls, rs, H0, post, fr⟩ (.exit i s) := rfl
@[simp] theorem mR_ret_seq (c : Code) : @mR P T ⟨ls, rs, H0, post, .seq c :: fr⟩ (.ret s) = @mR P T ⟨ls, rs, H0, post, fr⟩ (.ret s) := rfl
@[simp] theorem mR_norm_blk (i : Nat) : @mR P T ⟨ls, rs, H0, post, .blk i :: fr⟩ (.norm s) = @mR P T ⟨ls, rs, H0, post, fr⟩ (.norm s) := rfl
@[simp] theorem mR_ret_blk (i : Nat) : @mR P T ⟨ls, rs, H0, post, .blk i :: fr⟩ (.ret s) = @mR P T ⟨ls, rs, H0, post, fr⟩ (.ret s) := rfl
@[simp] theorem mR_exit_blk (i j : Nat) : @mR P T ⟨ls, rs, H0, post, .blk i :: fr⟩ (.exit j s) = if j = i then @mR P T ⟨ls, rs, H0, post, fr⟩ (.norm s) else @mR P T ⟨ls, rs, H0, post, fr⟩ (.exit j s) := by
  show after P T ls rs H0 post fr (if j = i then _ else _) = _
  split <;> rfl
@[simp] theorem mR_norm_inv (J : St → Prop) : @mR P T ⟨ls, rs, H0, post, .inv J :: fr⟩ (.norm s) = J s := rfl
@[simp] theorem mR_exit_inv (J : St → Prop) (i : Nat) : @mR P T ⟨ls, rs, H0, post, .inv J :: fr⟩ (.exit i s) = @mR P T ⟨ls, rs, H0, post, fr⟩ (.exit i s) := rfl
@[simp] theorem mR_ret_inv (J : St → Prop) : @mR P T ⟨ls, rs, H0, post, .inv J :: fr⟩ (.ret s) = @mR P T ⟨ls, rs, H0, post, fr⟩ (.ret s) := rfl
theorem mR_end (s : St) (r : Res) (hr : r = .ret s ∨ r = .norm s) : @mR P T ⟨ls, rs, H0, post, []⟩ r = @mEnd ⟨ls, rs, H0, post, []⟩ s.heap (resultsOf P s rs) := by
  have key : after P T ls rs H0 post [] (some r) = (∃ v H, (match resultsOf P s rs with | some v => some (v, gc H0 v s.heap) | none => none) = some (v, H) ∧ post v H) := by
    rcases hr with rfl | rfl <;> rfl
  show after P T ls rs H0 post [] (some r) = _
  rw [key]
  unfold mEnd
  cases resultsOf P s rs with
  | none => exact eq_false fun ⟨_, _, h, _⟩ => by cases h
  | some v =>
    refine propext ⟨fun ⟨v', H, h, hp⟩ => ?_, fun h => ⟨_, _, rfl, h⟩⟩
    cases h
    exact hp
@[simp] theorem mR_ret_end : @mR P T ⟨ls, rs, H0, post, []⟩ (.ret s) = @mEnd ⟨ls, rs, H0, post, []⟩ s.heap (resultsOf P s rs) := mR_end s _ (.inl rfl)
@[simp] theorem mR_norm_end : @mR P T ⟨ls, rs, H0, post, []⟩ (.norm s) = @mEnd ⟨ls, rs, H0, post, []⟩ s.heap (resultsOf P s rs) := mR_end s _ (.inr rfl)
@[simp] theorem mEnd_some (H : Heap) (v : Value) : @mEnd ⟨ls, rs, H0, post, fr⟩ H (some v) = post v (gc H0 v H) := rfl

@[simp] theorem mO_nil : @mO P T ⟨ls, rs, H0, post, fr⟩ ⟨ops, []⟩ s = @mR P T ⟨ls, rs, H0, post, fr⟩ (.norm s) := rfl
@[simp] theorem mG_some [k : Stk] [o : OpsS] : mG P T (some s) = mO P T s := rfl
theorem mG_go (r : Option St) : @mG P T ⟨ls, rs, H0, post, fr⟩ ⟨ops, rest⟩ r = after P T ls rs H0 post fr (normO (@eGo P T ⟨ls, ops, rest⟩ r)) := by
  cases r with
  | none => exact (eq_false (after_none fr)).symm
  | some s => rfl
@[simp] theorem mG_pend [k : Stk] [o : OpsS] (b : Bool) (x y : Option St) : mG P T (@pend _ b ⟨x, y⟩) = @pend Prop b ⟨mG P T x, mG P T y⟩ := by cases b <;> rfl

@[simp] theorem mO_plain (d : Option Tmp) (op : Op) (t : TypeId) (p : String) (af : Array Edge) :
    @mO P T ⟨ls, rs, H0, post, fr⟩ ⟨ops, ⟨d, op, t, p, af, none⟩ :: rest⟩ s = @mG P T ⟨ls, rs, H0, post, fr⟩ ⟨ops, rest⟩ (eDone P T s d (@eAop P ⟨ls, ⟨d, op, t, p, af, none⟩⟩ s)) := by
  rw [mG_go, ← eOps_plain]; rfl
@[simp] theorem mO_guard (j : Nat) (want : Bool) (d : Option Tmp) (op : Op) (t : TypeId) (p : String) (af : Array Edge) :
    @mO P T ⟨ls, rs, H0, post, fr⟩ ⟨ops, ⟨d, op, t, p, af, some (j, want)⟩ :: rest⟩ s = @mWant want (guardAt (@eDst ⟨ls, ops, rest⟩ j) s)
      ⟨@mG P T ⟨ls, rs, H0, post, fr⟩ ⟨ops, rest⟩ (eDone P T s d (@eAop P ⟨ls, ⟨d, op, t, p, af, some (j, want)⟩⟩ s)), @mO P T ⟨ls, rs, H0, post, fr⟩ ⟨ops, rest⟩ (s.put d undef)⟩ := by
  show after P T ls rs H0 post fr (normO (@eOps P T ⟨ls, ops, ⟨d, op, t, p, af, some (j, want)⟩ :: rest⟩ s)) = _
  rw [eOps_guard, mG_go]
  unfold eWant mWant
  cases guardAt (@eDst ⟨ls, ops, rest⟩ j) s with
  | none => exact eq_false (after_none fr)
  | some v => cases v with
    | bool b => cases b <;> cases want <;> rfl
    | tuple vs => rfl
    | _ => exact eq_false (after_none fr)

@[simp] theorem mD_nil (fs : List Foot) : @mD P T ⟨ls, rs, H0, post, fr⟩ ⟨ops, []⟩ fs s = @mR P T ⟨ls, rs, H0, post, fr⟩ (.norm s) := rfl
@[simp] theorem mDG_some (fs : List Foot) (o : Oper) : @mDG P T ⟨ls, rs, H0, post, fr⟩ ⟨ops, rest⟩ ⟨o⟩ fs s (some s') = @mDF P T ⟨ls, rs, H0, post, fr⟩ ⟨ops, rest⟩ fs s' (@eFoot ⟨ls, o⟩ s s') := by
  unfold mDG mDF eFoot
  simp only []
@[simp] theorem mDF_some (fs : List Foot) (f : Foot) : @mDF P T ⟨ls, rs, H0, post, fr⟩ ⟨ops, rest⟩ fs s' (some f) = (@eAgree ⟨ls, ops, rest⟩ fs f = true ∧ @mD P T ⟨ls, rs, H0, post, fr⟩ ⟨ops, rest⟩ (fs ++ [f]) s') := rfl
theorem mDG_go (fs : List Foot) (o : Oper) (r : Option St) : @mDG P T ⟨ls, rs, H0, post, fr⟩ ⟨ops, rest⟩ ⟨o⟩ fs s r = after P T ls rs H0 post fr (normO (@eDG P T ⟨ls, ops, rest⟩ ⟨ls, o⟩ fs s r)) := by
  cases r with
  | none => exact (eq_false (after_none fr)).symm
  | some s' =>
    unfold mDG eDG
    simp only []
    cases foot ls o s s' with
    | none => exact (eq_false (after_none fr)).symm
    | some f =>
      simp only []
      by_cases ha : agree (masks ops.toList) fs f = true
      · rw [if_pos ha]
        exact propext ⟨fun h => h.2, fun h => ⟨ha, h⟩⟩
      · rw [if_neg ha]
        exact propext ⟨fun h => absurd h.1 ha, fun h => absurd h (after_none fr)⟩
@[simp] theorem mDG_pend [k : Stk] [o : OpsS] [q : OperS] (fs : List Foot) (b : Bool) (x y : Option St) : mDG P T fs s (@pend _ b ⟨x, y⟩) = @pend Prop b ⟨mDG P T fs s x, mDG P T fs s y⟩ := by cases b <;> rfl
@[simp] theorem mD_plain (fs : List Foot) (d : Option Tmp) (op : Op) (t : TypeId) (p : String) (af : Array Edge) :
    @mD P T ⟨ls, rs, H0, post, fr⟩ ⟨ops, ⟨d, op, t, p, af, none⟩ :: rest⟩ fs s = @mDG P T ⟨ls, rs, H0, post, fr⟩ ⟨ops, rest⟩ ⟨⟨d, op, t, p, af, none⟩⟩ fs s (eDone P T s d (@eAop P ⟨ls, ⟨d, op, t, p, af, none⟩⟩ s)) := by
  rw [mDG_go, ← eDraw_plain]; rfl
@[simp] theorem mD_guard (fs : List Foot) (j : Nat) (want : Bool) (d : Option Tmp) (op : Op) (t : TypeId) (p : String) (af : Array Edge) :
    @mD P T ⟨ls, rs, H0, post, fr⟩ ⟨ops, ⟨d, op, t, p, af, some (j, want)⟩ :: rest⟩ fs s = @mWant want (guardAt (@eDst ⟨ls, ops, rest⟩ j) s)
      ⟨@mDG P T ⟨ls, rs, H0, post, fr⟩ ⟨ops, rest⟩ ⟨⟨d, op, t, p, af, some (j, want)⟩⟩ fs s (eDone P T s d (@eAop P ⟨ls, ⟨d, op, t, p, af, some (j, want)⟩⟩ s)),
       @mDG P T ⟨ls, rs, H0, post, fr⟩ ⟨ops, rest⟩ ⟨⟨d, op, t, p, af, some (j, want)⟩⟩ fs s (some (s.put d undef))⟩ := by
  show after P T ls rs H0 post fr (normO (@eDraw P T ⟨ls, ops, ⟨d, op, t, p, af, some (j, want)⟩ :: rest⟩ fs s)) = _
  rw [eDraw_guard, mDG_go, mDG_go]
  unfold eWant mWant
  cases guardAt (@eDst ⟨ls, ops, rest⟩ j) s with
  | none => exact eq_false (after_none fr)
  | some v => cases v with
    | bool b => cases b <;> cases want <;> rfl
    | tuple vs => rfl
    | _ => exact eq_false (after_none fr)

theorem agree_mut {ms : List Nat} {fs : List Foot} (h : agree ms fs .mut = true) : agree ms fs .ext = true := by
  unfold agree at h ⊢
  rw [List.all_eq_true] at h ⊢
  intro x hx
  have := h x hx
  obtain ⟨g, k⟩ := x
  simp only [Bool.or_eq_true] at this ⊢
  refine this.imp (fun hc => ?_) id
  cases g <;> first | rfl | exact hc
/-- An operation that changes what is there, in a drawn region: all that touches memory ahead of it must wait for nothing. -/
theorem mDF_mut {fs : List Foot} {s1 : St} (hsz : s1.heap.size ≤ s'.heap.size) (ha : agree (masks ops.toList) fs .mut = true) (h : ∀ f, @mD P T ⟨ls, rs, H0, post, fr⟩ ⟨ops, rest⟩ (fs ++ [f]) s') :
    @mDF P T ⟨ls, rs, H0, post, fr⟩ ⟨ops, rest⟩ fs s' (footH s1 s') := by
  unfold footH
  by_cases hg : Grown s1.heap s'.heap
  · rw [if_pos hg]
    exact ⟨agree_mut ha, h _⟩
  · rw [if_neg hg, if_pos hsz]
    exact ⟨ha, h _⟩
@[simp] theorem footH_push (e e' : Nat → Value) (l l' : Nat → List Value) (g g' : Nat) (H : Heap) (c : List Value) (es n n' : Nat) : footH (St.mk e l g H n) (St.mk e' l' g' (H.push c es) n') = some .ext := footH_ext (Grown.push H c es)

class LoopI where
  I : Nat → St → Prop
class CutJ where
  J : St → Prop
/-- What is to hold at a loop's next head; at a cut. -/
def again [h : LoopI] (j : Nat) (s : St) : Prop := ∃ j', j' < j ∧ h.I j' s
def here [h : CutJ] (s : St) : Prop := h.J s
theorem again_intro {I : Nat → St → Prop} {j : Nat} {s : St} (j' : Nat) (h : j' < j) (hI : I j' s) : @again ⟨I⟩ j s := ⟨j', h, hI⟩
theorem here_intro {J : St → Prop} {s : St} (h : J s) : @here ⟨J⟩ s := h

/-- A loop, by what holds at each of its heads. -/
theorem mC_loop {a : Code} (I : Nat → St → Prop) (step : ∀ j s, I j s → @mC P T ⟨ls, rs, H0, post, .inv (fun s' => @again ⟨I⟩ j s') :: fr⟩ ⟨a⟩ s) {j : Nat} {s : St} (h : I j s) :
    @mC P T ⟨ls, rs, H0, post, fr⟩ ⟨.loop a⟩ s := by
  induction j using Nat.strongRecOn generalizing s with
  | ind j ih =>
    have h1 := step j s h
    show after P T ls rs H0 post fr (evC P T ls (.loop a) s)
    rw [evC_loop]
    have h2 : after P T ls rs H0 post (.inv (fun s' => ∃ j', j' < j ∧ I j' s') :: fr) (evC P T ls a s) := h1
    revert h2
    cases evC P T ls a s with
    | none => exact fun h2 => absurd h2 (after_none _)
    | some r => cases r with
      | norm s' => exact fun ⟨j', hj, hI⟩ => ih j' hj hI
      | exit id s' => exact fun h2 => h2
      | ret s' => exact fun h2 => h2

theorem after_cut (J : St → Prop) (fr2 : List Frame) (h2 : ∀ s', J s' → @mR P T ⟨ls, rs, H0, post, fr2⟩ (.norm s')) : ∀ (fr1 : List Frame) (r : Option Res), after P T ls rs H0 post (fr1 ++ .inv J :: fr2) r → after P T ls rs H0 post (fr1 ++ fr2) r
  | [], r, h => by
    cases r with
    | none => exact absurd h (after_none _)
    | some r => cases r with
      | norm s' => exact h2 s' h
      | exit id s' => exact h
      | ret s' => exact h
  | .seq c :: f, r, h => after_cut J fr2 h2 f (evSeq (evC P T ls c) r) h
  | .blk id :: f, r, h => after_cut J fr2 h2 f (evBlk id r) h
  | .inv K :: f, r, h => by
    cases r with
    | none => exact absurd h (after_none _)
    | some r => cases r with
      | norm s' => exact h
      | exit id s' => exact after_cut J fr2 h2 f _ h
      | ret s' => exact after_cut J fr2 h2 f _ h
/-- A cut: what holds where the code at hand (with so many frames) has ended. -/
theorem mC_cut0 {a : Code} (J : St → Prop) (h1 : @mC P T ⟨ls, rs, H0, post, .inv (fun s' => @here ⟨J⟩ s') :: fr⟩ ⟨a⟩ s) (h2 : ∀ s', J s' → @mR P T ⟨ls, rs, H0, post, fr⟩ (.norm s')) : @mC P T ⟨ls, rs, H0, post, fr⟩ ⟨a⟩ s :=
  after_cut J fr h2 [] _ h1
theorem mC_cut1 {a : Code} {x : Frame} (J : St → Prop) (h1 : @mC P T ⟨ls, rs, H0, post, x :: .inv (fun s' => @here ⟨J⟩ s') :: fr⟩ ⟨a⟩ s) (h2 : ∀ s', J s' → @mR P T ⟨ls, rs, H0, post, fr⟩ (.norm s')) : @mC P T ⟨ls, rs, H0, post, x :: fr⟩ ⟨a⟩ s :=
  after_cut J fr h2 [x] _ h1
theorem mC_cut2 {a : Code} {x y : Frame} (J : St → Prop) (h1 : @mC P T ⟨ls, rs, H0, post, x :: y :: .inv (fun s' => @here ⟨J⟩ s') :: fr⟩ ⟨a⟩ s) (h2 : ∀ s', J s' → @mR P T ⟨ls, rs, H0, post, fr⟩ (.norm s')) : @mC P T ⟨ls, rs, H0, post, x :: y :: fr⟩ ⟨a⟩ s :=
  after_cut J fr h2 [x, y] _ h1

@[simp] theorem mG_if [k : Stk] [o : OpsS] (c : Prop) [Decidable c] (x : Option St) : mG P T (if c then x else none) = (c ∧ mG P T x) := by
  split
  · rename_i h; exact propext ⟨fun g => ⟨h, g⟩, fun g => g.2⟩
  · rename_i h; exact propext ⟨fun g => g.elim, fun g => absurd g.1 h⟩
@[simp] theorem mDG_if [k : Stk] [o : OpsS] [q : OperS] (fs : List Foot) (s : St) (c : Prop) [Decidable c] (x : Option St) : mDG P T fs s (if c then x else none) = (c ∧ mDG P T fs s x) := by
  split
  · rename_i h; exact propext ⟨fun g => ⟨h, g⟩, fun g => g.2⟩
  · rename_i h; exact propext ⟨fun g => g.elim, fun g => absurd g.1 h⟩

/-- A call, and what it comes to. -/
def Ret (P : Program) (T : Table) (f : FuncId) (args : Array Value) (H : Heap) (post : Value → Heap → Prop) : Prop := ∃ v H', evF P T f args H = some (v, H') ∧ post v H'

theorem Ret.go {f : FuncId} (hT : T f = none) {fn : Func} (hf : P.funcs[f]? = some fn) {body : Code} (hb : fn.body = some body) (hn : fn.name ≠ "runtime.NumGoroutine") {args : Array Value} (ha : args.size ≤ fn.ntmps) (hd : drawsOk body = true)
    {ls : List Nat} (hl : localsOf fn = ls) {rs : Array ResultVar} (hr : fn.results = rs) {n : Nat} (hnt : fn.ntmps = n) {H : Heap} {post : Value → Heap → Prop}
    (h : @mC P T ⟨ls, rs.toList, H, post, []⟩ ⟨body⟩ (St.mk (env0 args) (fun _ => []) 0 H n)) : Ret P T f args H post := by
  obtain ⟨v, H', e, hp⟩ := h
  refine ⟨v, H', ?_, hp⟩
  subst hl hr hnt
  rw [evF_eq hT hf hb hn ha hd H]
  exact e
theorem Ret.eq {f : FuncId} {args : Array Value} {H : Heap} {v : Value} {H' : Heap} (h : Ret P T f args H fun a b => a = v ∧ b = H') : evF P T f args H = some (v, H') := by
  obtain ⟨_, _, e, rfl, rfl⟩ := h
  exact e
theorem Ret.of_eq {f : FuncId} {args : Array Value} {H : Heap} {v : Value} {H' : Heap} (h : evF P T f args H = some (v, H')) {post : Value → Heap → Prop} (hp : post v H') : Ret P T f args H post := ⟨v, H', h, hp⟩
theorem Ret.mono {f : FuncId} {args : Array Value} {H : Heap} {p q : Value → Heap → Prop} (h : Ret P T f args H p) (hq : ∀ v H', p v H' → q v H') : Ret P T f args H q := by
  obtain ⟨v, H', e, hp⟩ := h
  exact ⟨v, H', e, hq v H' hp⟩

/-- A call that stands at the head of what is to be run. -/
theorem mG_call {k : Stk} {o : OpsS} {f : FuncId} {args : Array Value} {H : Heap} {p : Value → Heap → Prop} (h : Ret P T f args H p) {d : Option Tmp}
    (g : ∀ v H', p v H' → @mG P T k o (some ({ s with heap := H' }.put d v))) : @mG P T k o (evCall s d (evF P T f args H)) := by
  obtain ⟨v, H', e, hp⟩ := h
  rw [e]
  exact g v H' hp
theorem mDG_call {k : Stk} {o : OpsS} {q : OperS} {fs : List Foot} {f : FuncId} {args : Array Value} {H : Heap} {p : Value → Heap → Prop} (h : Ret P T f args H p) {d : Option Tmp} {s1 : St}
    (g : ∀ v H', p v H' → @mDG P T k o q fs s1 (some ({ s with heap := H' }.put d v))) : @mDG P T k o q fs s1 (evCall s d (evF P T f args H)) := by
  obtain ⟨v, H', e, hp⟩ := h
  rw [e]
  exact g v H' hp
end
attribute [irreducible] mC mR mO mG mD mDG mDF mIf mWant mEnd again here
end Go.Abs
