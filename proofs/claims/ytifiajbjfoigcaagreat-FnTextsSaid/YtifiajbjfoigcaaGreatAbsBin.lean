/-
  THE ABSTRACT MACHINE AND THE MODEL: operators, slicing, indexing, and so on: all that yields a value and leaves memory alone.
-/
import Derived.Test.YtifiajbjfoigcaaGreatAbsVal
namespace Go.Abs
open Go

def opInt (op : BinOp) (k : IntKind) (a b : Int) : Sem Value :=
  match op with
  | .add | .sub | .mul => Op.intArith op k a b
  | .quo | .rem => Op.intDiv op k a b
  | .and | .or | .xor | .andNot => Op.intBits op k a b
  | _ => Op.intCmp op a b

theorem run_binInt {P : Program} {op : BinOp} {k : IntKind} {a b : Int} {v : Value} (h : binInt op k a b = some v) (w : World) :
    (opInt op k a b).run P w = .ok v w ∧ flat0 v = true := by
  cases op <;> simp only [binInt, Option.some.injEq, reduceCtorEq] at h
  case quo =>
    split at h
    · cases h
    · rename_i hb
      cases h
      exact ⟨by simp [opInt, Op.intDiv, hb], rfl⟩
  case rem =>
    split at h
    · cases h
    · rename_i hb
      cases h
      exact ⟨by simp [opInt, Op.intDiv, hb], rfl⟩
  case eql => subst h; exact ⟨rfl, rfl⟩
  case neq => subst h; exact ⟨by simp only [opInt, Op.intCmp, Sem.run_pure]; congr 2; rw [Bool.eq_iff_iff]; simp, rfl⟩
  all_goals (subst h; exact ⟨rfl, rfl⟩)

theorem run_shift {P : Program} {op : BinOp} {k k' : IntKind} {a b : Int} {v : Value} (h : shift op k a b = some v) (w : World) :
    (Op.shift op k a k' b).run P w = .ok v w ∧ flat0 v = true := by
  unfold shift at h
  split at h
  · cases h
  · rename_i hb
    cases op <;> simp only [Option.some.injEq, reduceCtorEq] at h <;> subst h <;> exact ⟨by simp [Op.shift, hb], rfl⟩

theorem run_binStr {P : Program} {op : BinOp} {a b : ByteArray} {v : Value} (h : binStr op a b = some v) (w : World) :
    (Op.stringOp op a b).run P w = .ok v w ∧ flat0 v = true := by
  cases op <;> simp only [binStr, Option.some.injEq, reduceCtorEq] at h
  case add =>
    split at h
    · rename_i hb
      cases h
      refine ⟨?_, rfl⟩
      have : ¬ (((a.size + b.size : Nat) : Int) > IntKind.i64.max) := by
        have : IntKind.i64.max = 9223372036854775807 := by decide
        omega
      simp only [Op.stringOp, if_neg this]
      rfl
    · cases h
  all_goals
    subst h
    refine ⟨?_, rfl⟩
    simp only [Op.stringOp, beq_bytes]
    first
      | rfl
      | (show Result.ok _ w = Result.ok _ w; congr 2; rw [Bool.eq_iff_iff]; simp)

theorem run_eqGuard {P : Program} {op : BinOp} {t : TypeId} {x y : Operand} {a b : Value} (h : ∀ xs ys, a = .agg xs → b = .agg ys → (op = .eql ∨ op = .neq) → P.eqGuardType P.depth t = false)
    (hn : a ≠ .nilIface ∨ b ≠ .nilIface) (w : World) : (eqGuard op t x y a b).run P w = .ok () w := by
  have key : (op = .eql ∨ op = .neq) → ∀ (e : op = .eql ∨ op = .neq), (match a, b with
      | .nilIface, .nilIface => (do
        if (x matches .const _) || (y matches .const _) then return
        if ← Op.eqGuardIn Op.maxDepth t a b then unsupported (.noEntry "binop/eql: two nil values of an interface type with methods, neither of them the literal nil") : Sem Unit)
      | .agg _, .agg _ => do
        if !(← program).eqGuardType (← program).depth t then return
        if ← Op.eqGuardIn Op.maxDepth t a b then unsupported (.noEntry "binop/eql: two nil values of an interface type with methods, in a part of a struct or an array")
      | _, _ => pure ()).run P w = .ok () w := by
    intro e _
    split
    · rcases hn with hn | hn <;> exact absurd rfl hn
    · rename_i xs ys
      simp [h _ _ rfl rfl e]
    · rfl
  cases op
  case eql => exact key (.inl rfl) (.inl rfl)
  case neq => exact key (.inr rfl) (.inr rfl)
  all_goals rfl

theorem V_nilIface {m : Map} {v : Value} (h : V m v .nilIface) : v = .nilIface := by cases h; rfl

theorem eqIn_shape {P : Program} (d : Nat) (t : TypeId) (x y : Value) (r : Bool) (h : eqIn P (d + 1) t x y = some r) :
    (∃ a b, x = .bool a ∧ y = .bool b) ∨ (∃ k a k' b, x = .int k a ∧ y = .int k' b) ∨ (∃ a b, x = .string a ∧ y = .string b) ∨ (∃ a b, x = .agg a ∧ y = .agg b) := by
  unfold eqIn at h
  split at h
  · exact .inl ⟨_, _, rfl, rfl⟩
  · exact .inr (.inl ⟨_, _, _, _, rfl, rfl⟩)
  · exact .inr (.inr (.inl ⟨_, _, rfl, rfl⟩))
  · exact .inr (.inr (.inr ⟨_, _, rfl, rfl⟩))
  · cases h

def eqAny (P : Program) (t : TypeId) (x y : Value) : Option Bool :=
  match eqNil P t x y with
  | some r => some r
  | none => if P.eqGuardType P.depth t then none else eqIn P eqDepth t x y

theorem run_eqAny {P : Program} {t : TypeId} {x y : Value} {r : Bool} (h : eqAny P t x y = some r) {m : Map} {cx cy : Value} (vx : V m x cx) (vy : V m y cy)
    (hi : ∀ k a k' b, x = .int k a → y = .int k' b → False) (hs : ∀ a b, x = .string a → y = .string b → False) :
    (∀ op, (op = .eql ∨ op = .neq) → ∀ ox oy w, (eqGuard op t ox oy cx cy).run P w = .ok () w) ∧ (∀ w, (Op.equal t cx cy).run P w = .ok r w) ∧
      binOp .eql t cx cy = (do pure (.bool (← Op.equal t cx cy))) ∧ binOp .neq t cx cy = (do pure (.bool (!(← Op.equal t cx cy)))) := by
  unfold eqAny at h
  split at h
  · rename_i q hr
    cases h
    have hne : (∀ xs ys, cx = .agg xs → cy = .agg ys → False) ∧ (cx ≠ .nilIface ∨ cy ≠ .nilIface) ∧ binOp .eql t cx cy = (do pure (.bool (← Op.equal t cx cy))) ∧ binOp .neq t cx cy = (do pure (.bool (!(← Op.equal t cx cy)))) := by
      unfold eqNil at hr
      split at hr <;> first | contradiction | (cases vx <;> cases vy <;> exact ⟨by simp, by simp, rfl, rfl⟩)
    exact ⟨fun op _ ox oy w => run_eqGuard (fun xs ys e1 e2 => (hne.1 xs ys e1 e2).elim) hne.2.1 w, fun w => run_eqNil hr vx vy 9999 w, hne.2.2⟩
  · split at h
    · cases h
    · rename_i hg
      have hne : (cx ≠ .nilIface ∨ cy ≠ .nilIface) ∧ binOp .eql t cx cy = (do pure (.bool (← Op.equal t cx cy))) ∧ binOp .neq t cx cy = (do pure (.bool (!(← Op.equal t cx cy)))) := by
        rcases eqIn_shape 5 t x y r h with ⟨a, b, rfl, rfl⟩ | ⟨k, a, k', b, rfl, rfl⟩ | ⟨a, b, rfl, rfl⟩ | ⟨a, b, rfl, rfl⟩
        · cases vx; cases vy; exact ⟨by simp, rfl, rfl⟩
        · exact (hi _ _ _ _ rfl rfl).elim
        · exact (hs _ _ rfl rfl).elim
        · cases vx; cases vy; exact ⟨by simp, rfl, rfl⟩
      exact ⟨fun op _ ox oy w => run_eqGuard (fun xs ys e1 e2 _ => by simpa using hg) hne.1 w, fun w => run_equalIn eqDepth t x y r h m cx cy vx vy 10000 (by decide) w, hne.2⟩

theorem run_bin {P : Program} {op : BinOp} {t : TypeId} {x y v : Value} (h : bin P op t x y = some v) {m : Map} {cx cy : Value} (vx : V m x cx) (vy : V m y cy) (ox oy : Operand) (w : World) :
    (do eqGuard op t ox oy cx cy; binOp op t cx cy : Sem Value).run P w = .ok v w ∧ flat0 v = true := by
  unfold bin at h
  split at h
  · cases V.eq_flat0 rfl vx; cases V.eq_flat0 rfl vy
    obtain ⟨h1, h2⟩ := run_shift (P := P) (k' := by assumption) h w
    refine ⟨?_, h2⟩
    rw [Sem.run_bind, run_eqGuard (fun xs ys e => by cases e) (.inl (by simp)), Result.andThen_ok]
    exact h1
  · cases V.eq_flat0 rfl vx; cases V.eq_flat0 rfl vy
    obtain ⟨h1, h2⟩ := run_shift (P := P) (k' := by assumption) h w
    refine ⟨?_, h2⟩
    rw [Sem.run_bind, run_eqGuard (fun xs ys e => by cases e) (.inl (by simp)), Result.andThen_ok]
    exact h1
  · rename_i k a k' b hs1 hs2
    cases V.eq_flat0 rfl vx; cases V.eq_flat0 rfl vy
    split at h
    · rename_i hk
      subst hk
      obtain ⟨h1, h2⟩ := run_binInt (P := P) h w
      refine ⟨?_, h2⟩
      rw [Sem.run_bind, run_eqGuard (fun xs ys e => by cases e) (.inl (by simp)), Result.andThen_ok]
      cases op <;> first
        | (simp only [binInt, reduceCtorEq] at h; done)
        | (simp only [binOp, ne_eq, not_true_eq_false, if_false]; exact h1)
    · cases h
  · cases V.eq_flat0 rfl vx; cases V.eq_flat0 rfl vy
    obtain ⟨h1, h2⟩ := run_binStr (P := P) h w
    refine ⟨?_, h2⟩
    rw [Sem.run_bind, run_eqGuard (fun xs ys e => by cases e) (.inl (by simp)), Result.andThen_ok]
    cases op <;> first
      | (simp only [binStr, reduceCtorEq] at h; done)
      | (simp only [binOp]; exact h1)
  · rename_i hi hs
    cases hr : eqAny P t x y with
    | none => exact absurd h (by unfold eqAny at hr; split at h <;> simp_all)
    | some r =>
      obtain ⟨e1, e2, e3, _⟩ := run_eqAny hr vx vy (fun k a k' b h1 h2 => hi k a k' b h1 h2) (fun a b h1 h2 => hs a b h1 h2)
      have hv : v = .bool r := by
        unfold eqAny at hr
        split at h
        · rename_i q hq
          rw [hq] at hr; cases hr; cases h; rfl
        · rename_i hq
          rw [hq] at hr
          simp only at hr
          split at h
          · cases h
          · rename_i hg
            rw [if_neg hg] at hr
            rw [hr] at h; cases h; rfl
      subst hv
      exact ⟨by rw [Sem.run_bind, e1 .eql (.inl rfl) ox oy w, Result.andThen_ok, e3]; simp only [Sem.run_bind, e2 w, Result.andThen_ok, Sem.run_pure], rfl⟩
  · rename_i hi hs
    cases hr : eqAny P t x y with
    | none => exact absurd h (by unfold eqAny at hr; split at h <;> simp_all)
    | some r =>
      obtain ⟨e1, e2, _, e3⟩ := run_eqAny hr vx vy (fun k a k' b h1 h2 => hi k a k' b h1 h2) (fun a b h1 h2 => hs a b h1 h2)
      have hv : v = .bool !r := by
        unfold eqAny at hr
        split at h
        · rename_i q hq
          rw [hq] at hr; cases hr; cases h; rfl
        · rename_i hq
          rw [hq] at hr
          simp only at hr
          split at h
          · cases h
          · rename_i hg
            rw [if_neg hg] at hr
            rw [hr] at h; cases h; rfl
      subst hv
      exact ⟨by rw [Sem.run_bind, e1 .neq (.inr rfl) ox oy w, Result.andThen_ok, e3]; simp only [Sem.run_bind, e2 w, Result.andThen_ok, Sem.run_pure], rfl⟩
  · cases h

end Go.Abs
