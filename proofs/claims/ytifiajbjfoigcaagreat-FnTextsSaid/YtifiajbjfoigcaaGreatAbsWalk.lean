/-
  THE ABSTRACT MACHINE: its rules for simp. What is static (code, operations to come, branches that wait) stands in instances: simp does not go there.
-/
import Derived.Test.YtifiajbjfoigcaaGreatAbsEq
namespace Go.Abs
open Go
set_option linter.unusedSimpArgs false

class CodeH where
  ls : List Nat
  c : Code
class OpsH where
  ls : List Nat
  ops : Array Oper
  rest : List Oper
class OperH where
  ls : List Nat
  o : Oper
class Two (α : Type) where
  a : α
  b : α

/-- The loops of a code, the outer ones first. -/
def loops : Code → List Code
  | .seq a b => loops a ++ loops b
  | .cond _ a b => loops a ++ loops b
  | .block _ a => loops a
  | .loop a => .loop a :: loops a
  | _ => []
/-- The k-th loop of a function. -/
def loopAt (fn : Func) (k : Nat) : Code := (loops (fn.body.getD .skip)).getD k .skip
/-- The inside of a loop. -/
def inside : Code → Code
  | .loop a => a
  | c => c

/-- One of two that wait. -/
def pend {α : Type} (b : Bool) [h : Two α] : α := match b with
  | true => h.a
  | false => h.b
@[simp] theorem pend_true {α : Type} (x y : α) : @pend α true ⟨x, y⟩ = x := rfl
@[simp] theorem pend_false {α : Type} (x y : α) : @pend α false ⟨x, y⟩ = y := rfl
theorem pend_split {α : Type} {b : Bool} {x y r : α} (h1 : b = true → x = r) (h2 : b = false → y = r) : @pend α b ⟨x, y⟩ = r := by
  cases b
  · exact h2 rfl
  · exact h1 rfl
theorem pend_if {α : Type} {p : Prop} [Decidable p] {x y r : α} (h1 : p → x = r) (h2 : ¬ p → y = r) : @pend α (decide p) ⟨x, y⟩ = r :=
  pend_split (fun h => h1 (of_decide_eq_true h)) (fun h => h2 (of_decide_eq_false h))
theorem pend_same {α : Type} (b : Bool) (x : α) : @pend α b ⟨x, x⟩ = x := by cases b <;> rfl

section
variable (P : Program) (T : Table)

noncomputable def eC [h : CodeH] (s : St) : Option Res := evC P T h.ls h.c s
noncomputable def eSeq [h : CodeH] (r : Option Res) : Option Res := evSeq (evC P T h.ls h.c) r
noncomputable def eOps [h : OpsH] (s : St) : Option St := evOps P (evF P T) h.ls h.ops h.rest s
noncomputable def eGo [h : OpsH] (r : Option St) : Option St := match r with
  | some s => evOps P (evF P T) h.ls h.ops h.rest s
  | none => none
noncomputable def eDraw [h : OpsH] (fs : List Foot) (s : St) : Option St := evDraw P (evF P T) h.ls h.ops (masks h.ops.toList) fs h.rest s
noncomputable def eAop [h : OperH] (s : St) : Option OpR := aop P h.ls h.o s
noncomputable def eFoot [h : OperH] (s s' : St) : Option Foot := foot h.ls h.o s s'
def eAgree [h : OpsH] (fs : List Foot) (f : Foot) : Bool := agree (masks h.ops.toList) fs f
noncomputable def eDG [h : OpsH] [k : OperH] (fs : List Foot) (s : St) (r : Option St) : Option St := match r with
  | some s' => match foot k.ls k.o s s' with
    | some f => if agree (masks h.ops.toList) fs f = true then evDraw P (evF P T) h.ls h.ops (masks h.ops.toList) (fs ++ [f]) h.rest s' else none
    | none => none
  | none => none
noncomputable def eDF [h : OpsH] (fs : List Foot) (s' : St) (f : Option Foot) : Option St := match f with
  | some f => if agree (masks h.ops.toList) fs f = true then evDraw P (evF P T) h.ls h.ops (masks h.ops.toList) (fs ++ [f]) h.rest s' else none
  | none => none
/-- What an operation's outcome makes of the state. -/
noncomputable def eDone (s : St) (dst : Option Tmp) (r : Option OpR) : Option St := match r with
  | some (.done s') => some s'
  | some (.call f args) => match evF P T f args s.heap with
    | some (v, H) => some ({ s with heap := H }.put dst v)
    | none => none
  | none => none
end

def evCall (s : St) (dst : Option Tmp) : Option (Value × Heap) → Option St
  | some (v, H) => some ({ s with heap := H }.put dst v)
  | none => none
def eIf (v : Value) [h : Two (Option Res)] : Option Res := match v with
  | .bool b => pend b
  | _ => none
def eWant (want : Bool) (g : Option Value) [h : Two (Option St)] : Option St := match g with
  | some (.bool b) => pend (b == want)
  | some (.tuple _) => h.b
  | _ => none
/-- Where the j-th operation lays what it yields. -/
def dstL : List Oper → Nat → Option Tmp
  | [], _ => none
  | o :: _, 0 => o.dst
  | _ :: r, j + 1 => dstL r j
def eDst [h : OpsH] (j : Nat) : Option Tmp := dstL h.ops.toList j
def eDstL [h : OpsH] (j : Nat) : Option Tmp := dstL h.rest j
def guardAt (d : Option Tmp) (s : St) : Option Value := match d with
  | some d => if d < s.nt then some (s.env d) else none
  | none => none

section
variable {P : Program} {T : Table} {ls : List Nat} {ops : Array Oper} {rest : List Oper} {s s' : St}

@[simp] theorem eC_skip : @eC P T ⟨ls, .skip⟩ s = some (.norm s) := evC_skip s
@[simp] theorem eC_label (l : Nat) : @eC P T ⟨ls, .label l⟩ s = some (.norm s) := evC_label l s
@[simp] theorem eC_exit (i : Nat) : @eC P T ⟨ls, .exit i⟩ s = some (.exit i s) := evC_exit i s
@[simp] theorem eC_ret : @eC P T ⟨ls, .ret⟩ s = some (.ret s) := evC_ret s
@[simp] theorem eC_seq (a b : Code) : @eC P T ⟨ls, .seq a b⟩ s = @eSeq P T ⟨ls, b⟩ (@eC P T ⟨ls, a⟩ s) := evC_seq a b s
@[simp] theorem eC_block (i : Nat) (a : Code) : @eC P T ⟨ls, .block i a⟩ s = evBlk i (@eC P T ⟨ls, a⟩ s) := evC_block i a s
@[simp] theorem eC_cond (c : Operand) (a b : Code) : @eC P T ⟨ls, .cond c a b⟩ s = @eIf (s.ev c) ⟨@eC P T ⟨ls, a⟩ s, @eC P T ⟨ls, b⟩ s⟩ := by
  refine (evC_cond c a b s).trans ?_
  generalize s.ev c = v
  cases v with
  | bool t => cases t <;> rfl
  | _ => rfl
theorem eC_loop (a : Code) : @eC P T ⟨ls, .loop a⟩ s = @eSeq P T ⟨ls, .loop a⟩ (@eC P T ⟨ls, a⟩ s) := evC_loop a s
@[simp] theorem eC_region (i : Nat) : @eC P T ⟨ls, .region i ops false⟩ s = normO (@eOps P T ⟨ls, ops, ops.toList⟩ s) := evC_region i ops s
@[simp] theorem eC_draw (i : Nat) : @eC P T ⟨ls, .region i ops true⟩ s = normO (@eDraw P T ⟨ls, ops, ops.toList⟩ [] s) := evC_draw i ops s
@[simp] theorem eSeq_norm [h : CodeH] : eSeq P T (some (.norm s)) = eC P T s := rfl
@[simp] theorem eSeq_ret [h : CodeH] : eSeq P T (some (.ret s)) = some (.ret s) := rfl
@[simp] theorem eSeq_exit [h : CodeH] (i : Nat) : eSeq P T (some (.exit i s)) = some (.exit i s) := rfl
@[simp] theorem eSeq_pend [h : CodeH] (b : Bool) (x y : Option Res) : eSeq P T (@pend _ b ⟨x, y⟩) = @pend _ b ⟨eSeq P T x, eSeq P T y⟩ := by cases b <;> rfl
@[simp] theorem evBlk_norm (i : Nat) : evBlk i (some (.norm s)) = some (.norm s) := rfl
@[simp] theorem evBlk_ret (i : Nat) : evBlk i (some (.ret s)) = some (.ret s) := rfl
@[simp] theorem evBlk_exit (i id : Nat) : evBlk i (some (.exit id s)) = if id = i then some (.norm s) else some (.exit id s) := rfl
@[simp] theorem evBlk_pend (i : Nat) (b : Bool) (x y : Option Res) : evBlk i (@pend _ b ⟨x, y⟩) = @pend _ b ⟨evBlk i x, evBlk i y⟩ := by cases b <;> rfl
@[simp] theorem normO_some : normO (some s) = some (.norm s) := rfl
@[simp] theorem normO_pend (b : Bool) (x y : Option St) : normO (@pend _ b ⟨x, y⟩) = @pend _ b ⟨normO x, normO y⟩ := by cases b <;> rfl
@[simp] theorem eIf_bool (b : Bool) (x y : Option Res) : @eIf (.bool b) ⟨x, y⟩ = @pend _ b ⟨x, y⟩ := rfl
@[simp] theorem eWant_true (b : Bool) (x y : Option St) : @eWant true (some (.bool b)) ⟨x, y⟩ = @pend _ b ⟨x, y⟩ := by cases b <;> rfl
@[simp] theorem eWant_false (b : Bool) (x y : Option St) : @eWant false (some (.bool b)) ⟨x, y⟩ = @pend _ b ⟨y, x⟩ := by cases b <;> rfl
@[simp] theorem eWant_undef (want : Bool) (vs : Array Value) (x y : Option St) : @eWant want (some (.tuple vs)) ⟨x, y⟩ = y := rfl

@[simp] theorem eOps_nil : @eOps P T ⟨ls, ops, []⟩ s = some s := rfl
@[simp] theorem eGo_some [h : OpsH] : eGo P T (some s) = eOps P T s := rfl
@[simp] theorem eGo_pend [h : OpsH] (b : Bool) (x y : Option St) : eGo P T (@pend _ b ⟨x, y⟩) = @pend _ b ⟨eGo P T x, eGo P T y⟩ := by cases b <;> rfl
@[simp] theorem evCall_some (d : Option Tmp) (v : Value) (H : Heap) : evCall s d (some (v, H)) = some ({ s with heap := H }.put d v) := rfl
@[simp] theorem eDone_done (d : Option Tmp) : eDone P T s d (some (.done s')) = some s' := rfl
@[simp] theorem eDone_call (d : Option Tmp) (f : FuncId) (args : Array Value) : eDone P T s d (some (.call f args)) = evCall s d (evF P T f args s.heap) := by
  show (match evF P T f args s.heap with | some (v, H) => _ | none => none) = _
  cases evF P T f args s.heap <;> rfl

@[simp] theorem eOps_plain (d : Option Tmp) (op : Op) (t : TypeId) (p : String) (af : Array Edge) :
    @eOps P T ⟨ls, ops, ⟨d, op, t, p, af, none⟩ :: rest⟩ s = @eGo P T ⟨ls, ops, rest⟩ (eDone P T s d (@eAop P ⟨ls, ⟨d, op, t, p, af, none⟩⟩ s)) := by
  show evOps P (evF P T) ls ops (⟨d, op, t, p, af, none⟩ :: rest) s = _
  unfold eGo eDone eAop
  rw [evOps, evOp]
  simp only [wanted]
  cases aop P ls ⟨d, op, t, p, af, none⟩ s with
  | none => rfl
  | some r => cases r with
    | done s' => rfl
    | call f args =>
      simp only
      cases evF P T f args s.heap <;> rfl

@[simp] theorem eDst_at (j : Nat) : @eDst ⟨ls, ops, rest⟩ j = @eDstL ⟨ls, #[], ops.toList⟩ j := rfl
@[simp] theorem eDstL_zero (d : Option Tmp) (op : Op) (t : TypeId) (p : String) (af : Array Edge) (g : Option (Nat × Bool)) : @eDstL ⟨ls, ops, ⟨d, op, t, p, af, g⟩ :: rest⟩ 0 = d := rfl
@[simp] theorem eDstL_succ (o : Oper) (j : Nat) : @eDstL ⟨ls, ops, o :: rest⟩ (j + 1) = @eDstL ⟨ls, ops, rest⟩ j := rfl
@[simp] theorem guardAt_some (d : Tmp) (e : Nat → Value) (l : Nat → List Value) (g : Nat) (h : Heap) (n : Nat) : guardAt (some d) (St.mk e l g h n) = if d < n then some (e d) else none := rfl

theorem wanted_at (ops : Array Oper) (j : Nat) (want : Bool) (d : Option Tmp) (op : Op) (t : TypeId) (p : String) (af : Array Edge) (s : St) :
    wanted ops ⟨d, op, t, p, af, some (j, want)⟩ s = match guardAt (dstL ops.toList j) s with
      | some (.bool b) => some (b == want)
      | some (.tuple _) => some false
      | _ => none := by
  have key : ∀ (l : List Oper) (j : Nat), (match l[j]? with
      | some oj => match oj.dst with
        | some d => if d < s.nt then match s.env d with
          | .bool b => some (b == want)
          | .tuple _ => some false
          | _ => none
          else none
        | none => none
      | none => none) = (match guardAt (dstL l j) s with
      | some (.bool b) => some (b == want)
      | some (.tuple _) => some false
      | _ => none : Option Bool) := fun l => by
    induction l with
    | nil => intro j; rfl
    | cons o r ih =>
      intro j
      cases j with
      | zero =>
        show (match o.dst with | some d => _ | none => none) = _
        unfold dstL guardAt
        cases o.dst with
        | none => rfl
        | some d =>
          simp only
          by_cases hd : d < s.nt
          · simp only [if_pos hd]
            cases s.env d <;> rfl
          · simp only [if_neg hd]
      | succ j => exact ih j
  rw [← key]
  unfold wanted
  simp only [Array.getElem?_toList]
  cases ops[j]? with
  | none => rfl
  | some oj =>
    simp only
    cases oj.dst with
    | none => rfl
    | some d =>
      simp only
      by_cases hd : d < s.nt
      · simp only [if_pos hd]
        cases s.env d <;> rfl
      · simp only [if_neg hd]

@[simp] theorem eOps_guard (j : Nat) (want : Bool) (d : Option Tmp) (op : Op) (t : TypeId) (p : String) (af : Array Edge) :
    @eOps P T ⟨ls, ops, ⟨d, op, t, p, af, some (j, want)⟩ :: rest⟩ s = @eWant want (guardAt (@eDst ⟨ls, ops, rest⟩ j) s)
      ⟨@eGo P T ⟨ls, ops, rest⟩ (eDone P T s d (@eAop P ⟨ls, ⟨d, op, t, p, af, some (j, want)⟩⟩ s)), @eOps P T ⟨ls, ops, rest⟩ (s.put d undef)⟩ := by
  show evOps P (evF P T) ls ops (⟨d, op, t, p, af, some (j, want)⟩ :: rest) s = _
  unfold eGo eDone eAop eWant eDst
  rw [evOps, evOp, wanted_at]
  simp only
  cases guardAt (dstL ops.toList j) s with
  | none => rfl
  | some v => cases v with
    | bool b =>
      simp only
      cases b == want with
      | false => rfl
      | true =>
        simp only [pend]
        cases aop P ls ⟨d, op, t, p, af, some (j, want)⟩ s with
        | none => rfl
        | some r => cases r with
          | done s' => rfl
          | call f args =>
            simp only
            cases evF P T f args s.heap <;> rfl
    | _ => rfl

/-! ### Drawn regions -/

@[simp] theorem eDraw_nil (fs : List Foot) : @eDraw P T ⟨ls, ops, []⟩ fs s = some s := rfl
@[simp] theorem eDG_some [h : OpsH] [k : OperH] (fs : List Foot) : eDG P T fs s (some s') = eDF P T fs s' (eFoot s s') := by
  unfold eDG eDF eFoot
  simp only []
@[simp] theorem eDG_pend [h : OpsH] [k : OperH] (fs : List Foot) (b : Bool) (x y : Option St) : eDG P T fs s (@pend _ b ⟨x, y⟩) = @pend _ b ⟨eDG P T fs s x, eDG P T fs s y⟩ := by cases b <;> rfl
@[simp] theorem eDF_some [h : OpsH] (fs : List Foot) (f : Foot) : eDF P T fs s' (some f) = if eAgree fs f = true then eDraw P T (fs ++ [f]) s' else none := rfl

@[simp] theorem eDraw_plain (fs : List Foot) (d : Option Tmp) (op : Op) (t : TypeId) (p : String) (af : Array Edge) :
    @eDraw P T ⟨ls, ops, ⟨d, op, t, p, af, none⟩ :: rest⟩ fs s = @eDG P T ⟨ls, ops, rest⟩ ⟨ls, ⟨d, op, t, p, af, none⟩⟩ fs s (eDone P T s d (@eAop P ⟨ls, ⟨d, op, t, p, af, none⟩⟩ s)) := by
  show evDraw P (evF P T) ls ops (masks ops.toList) fs (⟨d, op, t, p, af, none⟩ :: rest) s = _
  unfold eDG eDone eAop
  rw [evDraw, evOp]
  simp only [wanted]
  cases aop P ls ⟨d, op, t, p, af, none⟩ s with
  | none => rfl
  | some r => cases r with
    | done s' => rfl
    | call f args =>
      simp only
      cases evF P T f args s.heap <;> rfl

@[simp] theorem eDraw_guard (fs : List Foot) (j : Nat) (want : Bool) (d : Option Tmp) (op : Op) (t : TypeId) (p : String) (af : Array Edge) :
    @eDraw P T ⟨ls, ops, ⟨d, op, t, p, af, some (j, want)⟩ :: rest⟩ fs s = @eWant want (guardAt (@eDst ⟨ls, ops, rest⟩ j) s)
      ⟨@eDG P T ⟨ls, ops, rest⟩ ⟨ls, ⟨d, op, t, p, af, some (j, want)⟩⟩ fs s (eDone P T s d (@eAop P ⟨ls, ⟨d, op, t, p, af, some (j, want)⟩⟩ s)),
       @eDG P T ⟨ls, ops, rest⟩ ⟨ls, ⟨d, op, t, p, af, some (j, want)⟩⟩ fs s (some (s.put d undef))⟩ := by
  show evDraw P (evF P T) ls ops (masks ops.toList) fs (⟨d, op, t, p, af, some (j, want)⟩ :: rest) s = _
  unfold eDG eDone eAop eWant eDst
  rw [evDraw, evOp, wanted_at]
  simp only
  cases guardAt (dstL ops.toList j) s with
  | none => rfl
  | some v => cases v with
    | bool b =>
      simp only
      cases b == want with
      | false => rfl
      | true =>
        simp only [pend]
        cases aop P ls ⟨d, op, t, p, af, some (j, want)⟩ s with
        | none => rfl
        | some r => cases r with
          | done s' => rfl
          | call f args =>
            simp only
            cases evF P T f args s.heap <;> rfl
    | _ => rfl

theorem agree_pure {ms : List Nat} {fs : List Foot} : agree ms fs .pure = true := by
  unfold agree
  rw [List.all_eq_true]
  rintro ⟨g, k⟩ _
  cases g <;> rfl

/-- Is nothing changed ahead? -/
def calm : List Foot → Bool
  | [] => true
  | .mut :: _ | .locW _ :: _ => false
  | _ :: r => calm r

theorem calm_mem : ∀ {fs : List Foot}, calm fs = true → ∀ f ∈ fs, f = .pure ∨ f = .ext ∨ ∃ l, f = .locR l
  | [], _, f, hf => by simp at hf
  | g :: r, h, f, hf => by
    cases g <;> first | cases h | skip
    all_goals
      rcases List.mem_cons.1 hf with rfl | hf
      · simp
      · exact calm_mem (show calm r = true from h) f hf

theorem agree_calm {ms : List Nat} {fs : List Foot} (h : calm fs = true) {f : Foot} (hf : f = .ext ∨ ∃ l, f = .locR l) : agree ms fs f = true := by
  unfold agree
  rw [List.all_eq_true]
  rintro ⟨g, k⟩ hx
  have hm := calm_mem h g (by
    rw [List.mem_zipIdx_iff_getElem?] at hx
    exact List.mem_of_getElem? hx)
  rcases hm with e | e | ⟨l, e⟩ <;> rcases hf with rfl | ⟨k, rfl⟩ <;> rw [e] <;> rfl

@[simp] theorem calm_nil : calm [] = true := id rfl
@[simp] theorem calm_pure (r : List Foot) : calm (.pure :: r) = calm r := id rfl
@[simp] theorem calm_ext (r : List Foot) : calm (.ext :: r) = calm r := id rfl
@[simp] theorem calm_locR (l : Nat) (r : List Foot) : calm (.locR l :: r) = calm r := id rfl

@[simp] theorem eAgree_pure [h : OpsH] (fs : List Foot) : eAgree fs .pure = true := agree_pure
@[simp] theorem eAgree_ext [k : OpsH] (fs : List Foot) (h : calm fs = true) : eAgree fs .ext = true := agree_calm h (.inl rfl)
@[simp] theorem eAgree_locR [k : OpsH] (fs : List Foot) (h : calm fs = true) (l : Nat) : eAgree fs (.locR l) = true := agree_calm h (.inr ⟨l, rfl⟩)

@[simp] theorem foot_load (ls : List Nat) (s s' : St) (d : Option Tmp) (t ty : TypeId) (a : Operand) (p : String) (af : Array Edge) (g : Option (Nat × Bool)) :
    @eFoot ⟨ls, ⟨d, .load t a, ty, p, af, g⟩⟩ s s' = match locOf (s.ev a) with | some l => some (.locR l) | none => some .ext := rfl
@[simp] theorem foot_store (ls : List Nat) (s s' : St) (d : Option Tmp) (t ty : TypeId) (a x : Operand) (p : String) (af : Array Edge) (g : Option (Nat × Bool)) :
    @eFoot ⟨ls, ⟨d, .store t a x, ty, p, af, g⟩⟩ s s' = match locOf (s.ev a) with | some l => some (.locW l) | none => some .mut := rfl
@[simp] theorem locOf_ptr (i o : Nat) : locOf (.pointer (some ⟨i, o, none⟩)) = none := rfl
@[simp] theorem locOf_nil : locOf (.pointer none) = none := rfl
@[simp] theorem locOf_lptr (i o : Nat) : locOf (lptr i o) = some i := rfl
@[simp] theorem locOf_lptr' (i o : Nat) : locOf (.pointer (some ⟨i, o, some 0⟩)) = some i := rfl
@[simp] theorem locOf_tuple (xs : Array Value) : locOf (.tuple xs) = none := rfl
@[simp] theorem foot_move (ls : List Nat) (s s' : St) (d : Option Tmp) (x : Operand) (ty : TypeId) (p : String) (af : Array Edge) (g : Option (Nat × Bool)) : @eFoot ⟨ls, ⟨d, .move x, ty, p, af, g⟩⟩ s s' = some .pure := rfl
@[simp] theorem foot_assign (ls : List Nat) (s s' : St) (d : Option Tmp) (x : Operand) (ty : TypeId) (p : String) (af : Array Edge) (g : Option (Nat × Bool)) : @eFoot ⟨ls, ⟨d, .assign x, ty, p, af, g⟩⟩ s s' = some .pure := rfl
@[simp] theorem foot_pick (ls : List Nat) (s s' : St) (d : Option Tmp) (c a b : Operand) (ty : TypeId) (p : String) (af : Array Edge) (g : Option (Nat × Bool)) : @eFoot ⟨ls, ⟨d, .pick c a b, ty, p, af, g⟩⟩ s s' = some .pure := rfl
@[simp] theorem foot_build (ls : List Nat) (s s' : St) (d : Option Tmp) (t : TypeId) (ps : Array (Nat × Operand)) (ty : TypeId) (p : String) (af : Array Edge) (g : Option (Nat × Bool)) : @eFoot ⟨ls, ⟨d, .build t ps, ty, p, af, g⟩⟩ s s' = some .pure := rfl
@[simp] theorem foot_nilCheck (ls : List Nat) (s s' : St) (d : Option Tmp) (x : Operand) (ty : TypeId) (p : String) (af : Array Edge) (g : Option (Nat × Bool)) : @eFoot ⟨ls, ⟨d, .nilCheck x, ty, p, af, g⟩⟩ s s' = some .pure := rfl
@[simp] theorem foot_binOp (ls : List Nat) (s s' : St) (d : Option Tmp) (op : BinOp) (t u : TypeId) (x y : Operand) (ty : TypeId) (p : String) (af : Array Edge) (g : Option (Nat × Bool)) : @eFoot ⟨ls, ⟨d, .binOp op t x y u, ty, p, af, g⟩⟩ s s' = some .pure := rfl
@[simp] theorem foot_unOp (ls : List Nat) (s s' : St) (d : Option Tmp) (op : UnOp) (t : TypeId) (x : Operand) (ty : TypeId) (p : String) (af : Array Edge) (g : Option (Nat × Bool)) : @eFoot ⟨ls, ⟨d, .unOp op t x, ty, p, af, g⟩⟩ s s' = some .pure := rfl
@[simp] theorem foot_makeFunc (ls : List Nat) (s s' : St) (d : Option Tmp) (f : Fn) (a b : Array Operand) (ty : TypeId) (p : String) (af : Array Edge) (g : Option (Nat × Bool)) : @eFoot ⟨ls, ⟨d, .makeFunc f a b, ty, p, af, g⟩⟩ s s' = some .pure := rfl
@[simp] theorem foot_fieldAddr (ls : List Nat) (s s' : St) (d : Option Tmp) (t : TypeId) (x : Operand) (n : Nat) (ty : TypeId) (p : String) (af : Array Edge) (g : Option (Nat × Bool)) : @eFoot ⟨ls, ⟨d, .fieldAddr t x n, ty, p, af, g⟩⟩ s s' = some .pure := rfl
@[simp] theorem foot_field (ls : List Nat) (s s' : St) (d : Option Tmp) (t : TypeId) (x : Operand) (n : Nat) (ty : TypeId) (p : String) (af : Array Edge) (g : Option (Nat × Bool)) : @eFoot ⟨ls, ⟨d, .field t x n, ty, p, af, g⟩⟩ s s' = some .pure := rfl
@[simp] theorem foot_indexAddr (ls : List Nat) (s s' : St) (d : Option Tmp) (t : TypeId) (x y : Operand) (ty : TypeId) (p : String) (af : Array Edge) (g : Option (Nat × Bool)) : @eFoot ⟨ls, ⟨d, .indexAddr t x y, ty, p, af, g⟩⟩ s s' = some .pure := rfl
@[simp] theorem foot_index (ls : List Nat) (s s' : St) (d : Option Tmp) (t : TypeId) (x y : Operand) (ty : TypeId) (p : String) (af : Array Edge) (g : Option (Nat × Bool)) : @eFoot ⟨ls, ⟨d, .index t x y, ty, p, af, g⟩⟩ s s' = some .pure := rfl
@[simp] theorem foot_extract (ls : List Nat) (s s' : St) (d : Option Tmp) (x : Operand) (n : Nat) (ty : TypeId) (p : String) (af : Array Edge) (g : Option (Nat × Bool)) : @eFoot ⟨ls, ⟨d, .extract x n, ty, p, af, g⟩⟩ s s' = some .pure := rfl
/-- The footprint of what makes, or changes. -/
noncomputable def footH (s s' : St) : Option Foot := open Classical in if Grown s.heap s'.heap then some .ext else if s.heap.size ≤ s'.heap.size then some .mut else none
@[simp] theorem foot_buildSlice (ls : List Nat) (s s' : St) (d : Option Tmp) (t : TypeId) (n : Nat) (ps : Array (Nat × Operand)) (ty : TypeId) (p : String) (af : Array Edge) (g : Option (Nat × Bool)) : @eFoot ⟨ls, ⟨d, .buildSlice t n ps, ty, p, af, g⟩⟩ s s' = footH s s' := rfl
@[simp] theorem foot_convert (ls : List Nat) (s s' : St) (d : Option Tmp) (t u : TypeId) (x : Operand) (ty : TypeId) (p : String) (af : Array Edge) (g : Option (Nat × Bool)) : @eFoot ⟨ls, ⟨d, .convert t u x, ty, p, af, g⟩⟩ s s' = if isIntV (s.ev x) = true then some .pure else footH s s' := rfl
@[simp] theorem foot_makeSlice (ls : List Nat) (s s' : St) (d : Option Tmp) (t : TypeId) (x y : Operand) (ty : TypeId) (p : String) (af : Array Edge) (g : Option (Nat × Bool)) : @eFoot ⟨ls, ⟨d, .makeSlice t x y, ty, p, af, g⟩⟩ s s' = footH s s' := rfl
@[simp] theorem foot_slice (ls : List Nat) (s s' : St) (d : Option Tmp) (t : TypeId) (x : Operand) (lo hi mx : Option Operand) (ty : TypeId) (p : String) (af : Array Edge) (g : Option (Nat × Bool)) : @eFoot ⟨ls, ⟨d, .slice t x lo hi mx, ty, p, af, g⟩⟩ s s' = if isStrV (s.ev x) = true then some .pure else footH s s' := rfl
@[simp] theorem isStrV_slice (a : Option Addr) (n c : Nat) : isStrV (.slice a n c) = false := rfl
@[simp] theorem isStrV_string (b : ByteArray) : isStrV (.string b) = true := rfl
@[simp] theorem isIntV_slice (a : Option Addr) (n c : Nat) : isIntV (.slice a n c) = false := rfl
@[simp] theorem isIntV_int (k : IntKind) (n : Int) : isIntV (.int k n) = true := rfl
@[simp] theorem isIntV_string (b : ByteArray) : isIntV (.string b) = false := rfl
@[simp] theorem isStrV_undef : isStrV undef = false := rfl
@[simp] theorem isIntV_undef : isIntV undef = false := rfl
@[simp] theorem foot_call (ls : List Nat) (s s' : St) (d : Option Tmp) (c : Call) (ty : TypeId) (p : String) (af : Array Edge) (g : Option (Nat × Bool)) : @eFoot ⟨ls, ⟨d, .call c, ty, p, af, g⟩⟩ s s' = footH s s' := rfl
@[simp] theorem foot_alloc (ls : List Nat) (s s' : St) (d : Option Tmp) (t : TypeId) (ty : TypeId) (p : String) (af : Array Edge) (g : Option (Nat × Bool)) : @eFoot ⟨ls, ⟨d, .alloc t, ty, p, af, g⟩⟩ s s' = if d.any (ls.contains ·) then some (.locW s.gen) else some .ext := rfl
@[simp] theorem foot_box (ls : List Nat) (s s' : St) (d : Option Tmp) (t : TypeId) (x : Operand) (ty : TypeId) (p : String) (af : Array Edge) (g : Option (Nat × Bool)) : @eFoot ⟨ls, ⟨d, .box t x, ty, p, af, g⟩⟩ s s' = if d.any (ls.contains ·) then some (.locW s.gen) else some .ext := rfl
theorem footH_ext {s s' : St} (h : Grown s.heap s'.heap) : footH s s' = some .ext := if_pos h
@[simp] theorem footH_same {s s' : St} (h : s'.heap = s.heap) : footH s s' = some .ext := footH_ext (by rw [h]; exact Grown.refl _)
@[simp] theorem Grown_self (H : Heap) : Grown H H = True := eq_true (Grown.refl H)
@[simp] theorem Grown_push (H : Heap) (c : List Value) (es : Nat) : Grown H (H.push c es) = True := eq_true (Grown.push H c es)

@[simp] theorem builtin_len (s : St) (d : Option Tmp) (t : TypeId) (x : Value) : builtin P s d .len [t] [x] = val s d (len P t x) := rfl
@[simp] theorem builtin_append (s : St) (d : Option Tmp) (t u : TypeId) (x y : Value) : builtin P s d .append [t, u] [x, y] = valH s d (append P s t u x y) := rfl
@[simp] theorem builtin_copy (s : St) (d : Option Tmp) (t u : TypeId) (x y : Value) : builtin P s d .copy [t, u] [x, y] = valH s d (copy P s t x y) := rfl
@[simp] theorem builtin_min (s : St) (d : Option Tmp) (ts : List TypeId) (x : Value) (l : List Value) : builtin P s d .min ts (x :: l) = val s d (minmax true x l) := rfl
@[simp] theorem builtin_max (s : St) (d : Option Tmp) (ts : List TypeId) (x : Value) (l : List Value) : builtin P s d .max ts (x :: l) = val s d (minmax false x l) := rfl
@[simp] theorem len_str (t : TypeId) (b : ByteArray) (hu : P.underlying t = some .string) : len P t (.string b) = some (.int .i64 b.size) := by unfold len; rw [hu]
@[simp] theorem len_slice (t e : TypeId) (a : Option Addr) (n c : Nat) (hu : P.underlying t = some (.slice e)) : len P t (.slice a n c) = some (.int .i64 n) := by unfold len; rw [hu]
@[simp] theorem convert_int (a b : TypeId) (k k' : IntKind) (n : Int) (d : TypeDesc) (ha : P.underlying a = some d) (hb : P.underlying b = some (.int k)) (s : St) : convert P s a b (.int k' n) = some (.int k (k.wrap n), s.heap) := by unfold convert; rw [ha, hb]
@[simp] theorem convert_rune (a b : TypeId) (k k' : IntKind) (n : Int) (ha : P.underlying a = some (.int k)) (hb : P.underlying b = some .string) (s : St) : convert P s a b (.int k' n) = some (.string (Utf8.encode n), s.heap) := by unfold convert; rw [ha, hb]
@[simp] theorem convert_str (a b : TypeId) (x : ByteArray) (ha : P.underlying a = some .string) (hb : P.underlying b = some .string) (s : St) : convert P s a b (.string x) = some (.string x, s.heap) := by unfold convert; rw [ha, hb]

/-! ### States -/

/-- A temporary set anew. -/
def upd (e : Nat → Value) (d : Nat) (v : Value) : Nat → Value := fun t => if t = d then v else e t
@[simp] theorem upd_at (e : Nat → Value) (d t : Nat) (v : Value) : upd e d v t = if t = d then v else e t := rfl
theorem put_mk (e : Nat → Value) (l : Nat → List Value) (g : Nat) (h : Heap) (n d : Nat) (v : Value) (hd : d < n) : (St.mk e l g h n).put (some d) v = St.mk (upd e d v) l g h n := by
  show St.mk (fun t => if t = d ∧ d < n then v else e t) l g h n = _
  simp only [hd, and_true]
  rfl
@[simp] theorem put_if (e : Nat → Value) (l : Nat → List Value) (g : Nat) (h : Heap) (n d : Nat) (v : Value) :
    (St.mk e l g h n).put (some d) v = if d < n then St.mk (upd e d v) l g h n else St.mk e l g h n := by
  split
  · rename_i hd; exact put_mk e l g h n d v hd
  · rename_i hd
    show St.mk (fun t => if t = d ∧ d < n then v else e t) l g h n = _
    simp only [hd, and_false, if_false]
@[simp] theorem put_no (s : St) (v : Value) : s.put none v = s := rfl
attribute [simp] put_heap put_loc put_gen put_nt
@[simp] theorem ev_tmp (e : Nat → Value) (l : Nat → List Value) (g : Nat) (h : Heap) (n : Nat) (t : Tmp) : (St.mk e l g h n).ev (.tmp t) = e t := rfl
theorem ev_const (s : St) (v : Value) (h : flatB v = true) : s.ev (.const v) = v := if_pos h
@[simp] theorem ev_bool (s : St) (b : Bool) : s.ev (.const (.bool b)) = .bool b := rfl
@[simp] theorem ev_int (s : St) (k : IntKind) (n : Int) : s.ev (.const (.int k n)) = .int k n := rfl
theorem ev_str (s : St) (b : ByteArray) : s.ev (.const (.string b)) = .string b := rfl
@[simp] theorem ev_nilp (s : St) : s.ev (.const (.pointer none)) = .pointer none := rfl
@[simp] theorem ev_nils (s : St) : s.ev (.const (.slice none 0 0)) = .slice none 0 0 := rfl
@[simp] theorem ev_nilf (s : St) : s.ev (.const .nilFunc) = .nilFunc := rfl
@[simp] theorem ev_func (s : St) (f : FuncId) : s.ev (.func f) = .func (.func f) #[] #[] := rfl

@[simp] theorem val_put (s : St) (d : Option Tmp) (v : Value) : val s d (some v) = some (.done (s.put d v)) := rfl
@[simp] theorem valH_put (s : St) (d : Option Tmp) (v : Value) (H : Heap) : valH s d (some (v, H)) = some (.done ({ s with heap := H }.put d v)) := rfl
@[simp] theorem cells_int (k : IntKind) (n : Int) : (Value.int k n).cells = #[.int k n] := rfl
@[simp] theorem cells_bool (b : Bool) : (Value.bool b).cells = #[.bool b] := rfl
@[simp] theorem cells_str (b : ByteArray) : (Value.string b).cells = #[.string b] := rfl
@[simp] theorem cells_slice (a : Option Addr) (n c : Nat) : (Value.slice a n c).cells = #[.slice a n c] := rfl
@[simp] theorem cells_pointer (a : Option Addr) : (Value.pointer a).cells = #[.pointer a] := rfl
@[simp] theorem cells_agg (xs : Array Value) : (Value.agg xs).cells = xs := rfl

/-! ### Plain operations -/

@[simp] theorem bin_add (t : TypeId) (k : IntKind) (a b : Int) : bin P .add t (.int k a) (.int k b) = some (.int k (k.wrap (a + b))) := by
  show (if k = k then binInt .add k a b else none) = _
  rw [if_pos rfl]; rfl
@[simp] theorem bin_sub (t : TypeId) (k : IntKind) (a b : Int) : bin P .sub t (.int k a) (.int k b) = some (.int k (k.wrap (a - b))) := by
  show (if k = k then binInt .sub k a b else none) = _
  rw [if_pos rfl]; rfl
@[simp] theorem bin_mul (t : TypeId) (k : IntKind) (a b : Int) : bin P .mul t (.int k a) (.int k b) = some (.int k (k.wrap (a * b))) := by
  show (if k = k then binInt .mul k a b else none) = _
  rw [if_pos rfl]; rfl
theorem bin_quo (t : TypeId) (k : IntKind) (a b : Int) : bin P .quo t (.int k a) (.int k b) = if b = 0 then none else some (.int k (k.wrap (a.tdiv b))) := by
  show (if k = k then binInt .quo k a b else none) = _
  rw [if_pos rfl]; rfl
theorem bin_rem (t : TypeId) (k : IntKind) (a b : Int) : bin P .rem t (.int k a) (.int k b) = if b = 0 then none else some (.int k (a.tmod b)) := by
  show (if k = k then binInt .rem k a b else none) = _
  rw [if_pos rfl]; rfl
@[simp] theorem bin_and (t : TypeId) (k : IntKind) (a b : Int) : bin P .and t (.int k a) (.int k b) = some (.int k (bits .and k a b)) := by
  show (if k = k then binInt .and k a b else none) = _
  rw [if_pos rfl]; rfl
@[simp] theorem bin_or (t : TypeId) (k : IntKind) (a b : Int) : bin P .or t (.int k a) (.int k b) = some (.int k (bits .or k a b)) := by
  show (if k = k then binInt .or k a b else none) = _
  rw [if_pos rfl]; rfl
@[simp] theorem bin_xor (t : TypeId) (k : IntKind) (a b : Int) : bin P .xor t (.int k a) (.int k b) = some (.int k (bits .xor k a b)) := by
  show (if k = k then binInt .xor k a b else none) = _
  rw [if_pos rfl]; rfl
@[simp] theorem bin_andNot (t : TypeId) (k : IntKind) (a b : Int) : bin P .andNot t (.int k a) (.int k b) = some (.int k (bits .andNot k a b)) := by
  show (if k = k then binInt .andNot k a b else none) = _
  rw [if_pos rfl]; rfl
@[simp] theorem bin_eql (t : TypeId) (k : IntKind) (a b : Int) : bin P .eql t (.int k a) (.int k b) = some (.bool (decide (a = b))) := by
  show (if k = k then binInt .eql k a b else none) = _
  rw [if_pos rfl]; rfl
@[simp] theorem bin_neq (t : TypeId) (k : IntKind) (a b : Int) : bin P .neq t (.int k a) (.int k b) = some (.bool (decide (a ≠ b))) := by
  show (if k = k then binInt .neq k a b else none) = _
  rw [if_pos rfl]; rfl
@[simp] theorem bin_lss (t : TypeId) (k : IntKind) (a b : Int) : bin P .lss t (.int k a) (.int k b) = some (.bool (decide (a < b))) := by
  show (if k = k then binInt .lss k a b else none) = _
  rw [if_pos rfl]; rfl
@[simp] theorem bin_leq (t : TypeId) (k : IntKind) (a b : Int) : bin P .leq t (.int k a) (.int k b) = some (.bool (decide (a ≤ b))) := by
  show (if k = k then binInt .leq k a b else none) = _
  rw [if_pos rfl]; rfl
@[simp] theorem bin_gtr (t : TypeId) (k : IntKind) (a b : Int) : bin P .gtr t (.int k a) (.int k b) = some (.bool (decide (b < a))) := by
  show (if k = k then binInt .gtr k a b else none) = _
  rw [if_pos rfl]; rfl
@[simp] theorem bin_geq (t : TypeId) (k : IntKind) (a b : Int) : bin P .geq t (.int k a) (.int k b) = some (.bool (decide (b ≤ a))) := by
  show (if k = k then binInt .geq k a b else none) = _
  rw [if_pos rfl]; rfl
def shlI (k : IntKind) (a b : Int) : Int := k.wrap (a * 2 ^ (min b.toNat k.bits))
def shrI (k : IntKind) (a b : Int) : Int := a.fdiv (2 ^ (min b.toNat k.bits))
@[simp] theorem bin_shl (t : TypeId) (k k' : IntKind) (a b : Int) : bin P .shl t (.int k a) (.int k' b) = if 0 ≤ b then some (.int k (shlI k a b)) else none := by
  show shift .shl k a b = _
  unfold shift
  by_cases h : b < 0
  · rw [if_pos h, if_neg (by omega)]
  · rw [if_neg h, if_pos (by omega)]; rfl
@[simp] theorem bin_shr (t : TypeId) (k k' : IntKind) (a b : Int) : bin P .shr t (.int k a) (.int k' b) = if 0 ≤ b then some (.int k (shrI k a b)) else none := by
  show shift .shr k a b = _
  unfold shift
  by_cases h : b < 0
  · rw [if_pos h, if_neg (by omega)]
  · rw [if_neg h, if_pos (by omega)]; rfl
@[simp] theorem bin_add_str (t : TypeId) (a b : ByteArray) : bin P .add t (.string a) (.string b) = if a.size + b.size ≤ 2 ^ 62 then some (.string (a ++ b)) else none := rfl
@[simp] theorem bin_eql_str (t : TypeId) (a b : ByteArray) : bin P .eql t (.string a) (.string b) = some (.bool (decide (a = b))) := rfl
@[simp] theorem bin_neq_str (t : TypeId) (a b : ByteArray) : bin P .neq t (.string a) (.string b) = some (.bool (decide (a ≠ b))) := rfl
@[simp] theorem bin_lss_str (t : TypeId) (a b : ByteArray) : bin P .lss t (.string a) (.string b) = some (.bool (Op.bytesLess a.toList b.toList)) := rfl
@[simp] theorem bin_gtr_str (t : TypeId) (a b : ByteArray) : bin P .gtr t (.string a) (.string b) = some (.bool !(Op.bytesLess a.toList b.toList || decide (a = b))) := rfl

/-! ### Operations -/

@[simp] theorem aop_move (x : Operand) (d : Option Tmp) (ty : TypeId) (p : String) (af : Array Edge) (g : Option (Nat × Bool)) (s : St) : @eAop P ⟨ls, ⟨d, .move x, ty, p, af, g⟩⟩ s = val s d (some (s.ev x)) := rfl
@[simp] theorem aop_assign (x : Operand) (d : Option Tmp) (ty : TypeId) (p : String) (af : Array Edge) (g : Option (Nat × Bool)) (s : St) : @eAop P ⟨ls, ⟨d, .assign x, ty, p, af, g⟩⟩ s = val s d (some (s.ev x)) := rfl
/-- One of two by a flag. -/
def pickV (c a b : Value) : Option Value := match c with
  | .bool t => some (if t then a else b)
  | _ => none
@[simp] theorem pickV_bool (t : Bool) (a b : Value) : pickV (.bool t) a b = some (if t = true then a else b) := rfl
@[simp] theorem aop_pick (c a b : Operand) (d : Option Tmp) (ty : TypeId) (p : String) (af : Array Edge) (g : Option (Nat × Bool)) (s : St) :
    @eAop P ⟨ls, ⟨d, .pick c a b, ty, p, af, g⟩⟩ s = val s d (pickV (s.ev c) (s.ev a) (s.ev b)) := by
  show (match s.ev c with | .bool t => _ | _ => none) = _
  cases s.ev c <;> rfl
/-- With what is known of a type. -/
def withT {α : Type} (ti : Option TInfo) (k : TInfo → Option α) : Option α := match ti with
  | some t => k t
  | none => none
@[simp] theorem withT_some {α : Type} (t : TInfo) (k : TInfo → Option α) : withT (some t) k = k t := rfl
@[simp] theorem aop_alloc (t : TypeId) (d : Option Tmp) (ty : TypeId) (p : String) (af : Array Edge) (g : Option (Nat × Bool)) (s : St) :
    @eAop P ⟨ls, ⟨d, .alloc t, ty, p, af, g⟩⟩ s = withT (TI P t) fun ti => some (.done (s.make ls d ti.zero)) := rfl
@[simp] theorem aop_box (t : TypeId) (x : Operand) (d : Option Tmp) (ty : TypeId) (p : String) (af : Array Edge) (g : Option (Nat × Bool)) (s : St) :
    @eAop P ⟨ls, ⟨d, .box t x, ty, p, af, g⟩⟩ s = withT (TI P t) fun _ => if storable (s.ev x) = true then some (.done (s.make ls d (s.ev x).cells.toList)) else none := rfl
@[simp] theorem aop_load (t : TypeId) (a : Operand) (d : Option Tmp) (ty : TypeId) (p : String) (af : Array Edge) (g : Option (Nat × Bool)) (s : St) :
    @eAop P ⟨ls, ⟨d, .load t a, ty, p, af, g⟩⟩ s = withT (TI P t) fun ti => val s d ((s.cellsAt (s.ev a) ti.size).bind (mk ti.agg)) := rfl
def stored (s : St) (d : Option Tmp) : Option St → Option OpR
  | some s' => some (.done (s'.put d undef))
  | none => none
@[simp] theorem stored_some (s s' : St) (d : Option Tmp) : stored s d (some s') = some (.done (s'.put d undef)) := rfl
@[simp] theorem aop_store (t : TypeId) (a x : Operand) (d : Option Tmp) (ty : TypeId) (p : String) (af : Array Edge) (g : Option (Nat × Bool)) (s : St) :
    @eAop P ⟨ls, ⟨d, .store t a x, ty, p, af, g⟩⟩ s = withT (TI P t) fun ti => if (s.ev x).cells.size = ti.size ∧ 0 < ti.size ∧ storable (s.ev x) = true then stored s d (s.storeAt (s.ev a) (s.ev x).cells.toList) else none := by
  show (match TI P t with | some ti => _ | none => none) = _
  cases TI P t with
  | none => rfl
  | some ti =>
    simp only [withT_some]
    split
    · cases s.storeAt (s.ev a) (s.ev x).cells.toList <;> rfl
    · rfl
/-- What a nil check lets through. -/
def solid (v : Value) : Option Value := match nilness v with
  | some false => match v with
    | .func (.method _) _ _ => none
    | v => some v
  | _ => none
@[simp] theorem solid_ptr (i o : Nat) : solid (.pointer (some ⟨i, o, none⟩)) = some (.pointer (some ⟨i, o, none⟩)) := rfl
@[simp] theorem solid_func (f : FuncId) (xs ys : Array Value) : solid (.func (.func f) xs ys) = some (.func (.func f) xs ys) := rfl
@[simp] theorem aop_nilCheck (x : Operand) (d : Option Tmp) (ty : TypeId) (p : String) (af : Array Edge) (g : Option (Nat × Bool)) (s : St) :
    @eAop P ⟨ls, ⟨d, .nilCheck x, ty, p, af, g⟩⟩ s = val s d (solid (s.ev x)) := by
  have key : ∀ v : Value, (match nilness v with
      | some false => match v with
        | .func (.method _) _ _ => none
        | v => val s d (some v)
      | _ => none) = val s d (solid v) := fun v => by
    unfold solid
    cases nilness v with
    | none => rfl
    | some b =>
      cases b
      · cases v with
        | func f xs ys => cases f <;> rfl
        | _ => rfl
      · rfl
  exact key (s.ev x)
/-- A part of a row of results. -/
def partOf (v : Value) (i : Nat) : Option Value := match v with
  | .tuple vs => vs[i]?
  | _ => none
@[simp] theorem partOf_tuple (vs : Array Value) (i : Nat) : partOf (.tuple vs) i = vs[i]? := rfl
@[simp] theorem aop_extract (x : Operand) (i : Nat) (d : Option Tmp) (ty : TypeId) (p : String) (af : Array Edge) (g : Option (Nat × Bool)) (s : St) :
    @eAop P ⟨ls, ⟨d, .extract x i, ty, p, af, g⟩⟩ s = val s d (partOf (s.ev x) i) := by
  show (match s.ev x with | .tuple vs => _ | _ => none) = _
  cases s.ev x <;> rfl
/-- A call of a function value. -/
def callV (v : Value) (args : Array Value) : Option OpR := match v with
  | .func (.func g) fi ca => some (.call g (fi ++ args ++ ca))
  | _ => none
@[simp] theorem callV_func (g : FuncId) (fi ca args : Array Value) : callV (.func (.func g) fi ca) args = some (.call g (fi ++ args ++ ca)) := rfl
@[simp] theorem aop_callB (b : Builtin) (args : Array Operand) (ts : Array TypeId) (d : Option Tmp) (ty : TypeId) (p : String) (af : Array Edge) (g : Option (Nat × Bool)) (s : St) :
    @eAop P ⟨ls, ⟨d, .call ⟨.builtin b, args, ts⟩, ty, p, af, g⟩⟩ s = builtin P s d b ts.toList (args.toList.map s.ev) := rfl
@[simp] theorem aop_callV (f : Operand) (args : Array Operand) (ts : Array TypeId) (d : Option Tmp) (ty : TypeId) (p : String) (af : Array Edge) (g : Option (Nat × Bool)) (s : St) :
    @eAop P ⟨ls, ⟨d, .call ⟨.value f, args, ts⟩, ty, p, af, g⟩⟩ s = if (args.toList.all fun x => !isLoc (s.ev x)) = true then callV (s.ev f) (args.map s.ev) else none := by
  show (match s.ev f with | .func (.func g) fi ca => _ | _ => none) = _
  unfold callV
  split
  · rfl
  · split <;> rfl
@[simp] theorem aop_build (t : TypeId) (ps : Array (Nat × Operand)) (d : Option Tmp) (ty : TypeId) (p : String) (af : Array Edge) (g : Option (Nat × Bool)) (s : St) : @eAop P ⟨ls, ⟨d, .build t ps, ty, p, af, g⟩⟩ s = val s d (build P t (ps.toList.map fun p => (p.1, s.ev p.2))) := rfl
@[simp] theorem aop_buildSlice (t : TypeId) (n : Nat) (ps : Array (Nat × Operand)) (d : Option Tmp) (ty : TypeId) (p : String) (af : Array Edge) (g : Option (Nat × Bool)) (s : St) : @eAop P ⟨ls, ⟨d, .buildSlice t n ps, ty, p, af, g⟩⟩ s = valH s d (buildSlice P s t n (ps.toList.map fun p => (p.1, s.ev p.2))) := rfl
@[simp] theorem aop_binOp (op : BinOp) (t u : TypeId) (x y : Operand) (d : Option Tmp) (ty : TypeId) (p : String) (af : Array Edge) (g : Option (Nat × Bool)) (s : St) : @eAop P ⟨ls, ⟨d, .binOp op t x y u, ty, p, af, g⟩⟩ s = val s d (bin P op t (s.ev x) (s.ev y)) := rfl
@[simp] theorem aop_unOp (op : UnOp) (t : TypeId) (x : Operand) (d : Option Tmp) (ty : TypeId) (p : String) (af : Array Edge) (g : Option (Nat × Bool)) (s : St) : @eAop P ⟨ls, ⟨d, .unOp op t x, ty, p, af, g⟩⟩ s = val s d (un op (s.ev x)) := rfl
@[simp] theorem aop_convert (a b : TypeId) (x : Operand) (d : Option Tmp) (ty : TypeId) (p : String) (af : Array Edge) (g : Option (Nat × Bool)) (s : St) : @eAop P ⟨ls, ⟨d, .convert a b x, ty, p, af, g⟩⟩ s = valH s d (convert P s a b (s.ev x)) := rfl
@[simp] theorem aop_makeFunc (f : FuncId) (fi ca : Array Operand) (d : Option Tmp) (ty : TypeId) (p : String) (af : Array Edge) (g : Option (Nat × Bool)) (s : St) : @eAop P ⟨ls, ⟨d, .makeFunc (.func f) fi ca, ty, p, af, g⟩⟩ s = if ((fi.toList ++ ca.toList).all fun x => !isLoc (s.ev x)) = true then val s d (some (.func (.func f) (fi.map s.ev) (ca.map s.ev))) else none := rfl
@[simp] theorem aop_makeSlice (t : TypeId) (l c : Operand) (d : Option Tmp) (ty : TypeId) (p : String) (af : Array Edge) (g : Option (Nat × Bool)) (s : St) : @eAop P ⟨ls, ⟨d, .makeSlice t l c, ty, p, af, g⟩⟩ s = valH s d (makeSlice P s t (s.ev l) (s.ev c)) := rfl
@[simp] theorem aop_slice (t : TypeId) (x : Operand) (lo hi mx : Option Operand) (d : Option Tmp) (ty : TypeId) (p : String) (af : Array Edge) (g : Option (Nat × Bool)) (s : St) : @eAop P ⟨ls, ⟨d, .slice t x lo hi mx, ty, p, af, g⟩⟩ s = val s d (slice P s.heap t (s.ev x) (lo.map s.ev) (hi.map s.ev) (mx.map s.ev)) := rfl
@[simp] theorem aop_fieldAddr (t : TypeId) (x : Operand) (f : Nat) (d : Option Tmp) (ty : TypeId) (p : String) (af : Array Edge) (g : Option (Nat × Bool)) (s : St) : @eAop P ⟨ls, ⟨d, .fieldAddr t x f, ty, p, af, g⟩⟩ s = val s d (fieldAddr P t (s.ev x) f) := rfl
@[simp] theorem aop_field (t : TypeId) (x : Operand) (f : Nat) (d : Option Tmp) (ty : TypeId) (p : String) (af : Array Edge) (g : Option (Nat × Bool)) (s : St) : @eAop P ⟨ls, ⟨d, .field t x f, ty, p, af, g⟩⟩ s = val s d (fieldOf P t (s.ev x) f) := rfl
@[simp] theorem aop_indexAddr (t : TypeId) (x i : Operand) (d : Option Tmp) (ty : TypeId) (p : String) (af : Array Edge) (g : Option (Nat × Bool)) (s : St) : @eAop P ⟨ls, ⟨d, .indexAddr t x i, ty, p, af, g⟩⟩ s = val s d (indexAddr P t (s.ev x) (s.ev i)) := rfl
@[simp] theorem aop_index (t : TypeId) (x i : Operand) (d : Option Tmp) (ty : TypeId) (p : String) (af : Array Edge) (g : Option (Nat × Bool)) (s : St) : @eAop P ⟨ls, ⟨d, .index t x i, ty, p, af, g⟩⟩ s = val s d (index P t (s.ev x) (s.ev i)) := rfl

/-! ### The end of a call -/

@[simp] theorem gc_self (H : Heap) (v : Value) : gc H v H = H := if_neg fun h => absurd h.1 (Nat.lt_irrefl _)

@[simp] theorem fin_pend (rs : List ResultVar) (H : Heap) (b : Bool) (x y : Option Res) : fin P rs H (@pend _ b ⟨x, y⟩) = @pend _ b ⟨fin P rs H x, fin P rs H y⟩ := by cases b <;> rfl

attribute [simp] flatB flat1 flat0 env0 un
@[simp] theorem isLoc_bool (b : Bool) : isLoc (.bool b) = false := rfl
@[simp] theorem isLoc_int (k : IntKind) (n : Int) : isLoc (.int k n) = false := rfl
@[simp] theorem isLoc_str (b : ByteArray) : isLoc (.string b) = false := rfl
@[simp] theorem isLoc_nilp : isLoc (.pointer none) = false := rfl
@[simp] theorem isLoc_ptr (i o : Nat) : isLoc (.pointer (some ⟨i, o, none⟩)) = false := rfl
@[simp] theorem isLoc_lptr (i o : Nat) : isLoc (lptr i o) = true := rfl
@[simp] theorem isLoc_slice (a : Option Addr) (n c : Nat) : isLoc (.slice a n c) = false := rfl
@[simp] theorem isLoc_agg (xs : Array Value) : isLoc (.agg xs) = false := rfl
@[simp] theorem isLoc_tuple (xs : Array Value) : isLoc (.tuple xs) = false := rfl
@[simp] theorem isLoc_func (f : Fn) (xs ys : Array Value) : isLoc (.func f xs ys) = false := rfl
@[simp] theorem isLoc_nilf : isLoc .nilFunc = false := rfl

@[simp] theorem fin_ret (rs : List ResultVar) (H : Heap) (s : St) : fin P rs H (some (.ret s)) = (resultsOf P s rs).map fun v => (v, gc H v s.heap) := by
  show (match resultsOf P s rs with | some v => _ | none => _) = _
  cases resultsOf P s rs <;> rfl
@[simp] theorem fin_norm (rs : List ResultVar) (H : Heap) (s : St) : fin P rs H (some (.norm s)) = (resultsOf P s rs).map fun v => (v, gc H v s.heap) := by
  show (match resultsOf P s rs with | some v => _ | none => _) = _
  cases resultsOf P s rs <;> rfl

attribute [simp] resultsOf resultL result1

/-- A call's body. -/
theorem evF_go {P : Program} {T : Table} {f : FuncId} (hT : T f = none) {fn : Func} (hf : P.funcs[f]? = some fn) {body : Code} (hb : fn.body = some body) (hn : fn.name ≠ "runtime.NumGoroutine") {args : Array Value} (ha : args.size ≤ fn.ntmps) (hd : drawsOk body = true)
    {ls : List Nat} (hl : localsOf fn = ls) {rs : Array ResultVar} (hr : fn.results = rs) {n : Nat} (hnt : fn.ntmps = n) (H : Heap) :
    evF P T f args H = fin P rs.toList H (@eC P T ⟨ls, body⟩ (St.mk (env0 args) (fun _ => []) 0 H n)) := by
  subst hl hr hnt
  exact evF_eq hT hf hb hn ha hd H

end
end Go.Abs
