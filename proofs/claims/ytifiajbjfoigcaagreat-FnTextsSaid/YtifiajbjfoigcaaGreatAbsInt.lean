/-
  THE ABSTRACT MACHINE: whole numbers.
-/
import Derived.Test.YtifiajbjfoigcaaGreatAbsMem
namespace Go.Abs
open Go

theorem wrap_i64 {n : Int} (h1 : -9223372036854775808 ≤ n) (h2 : n ≤ 9223372036854775807) : IntKind.i64.wrap n = n := by
  unfold IntKind.wrap
  simp [IntKind.bits, IntKind.signed]
  omega

@[simp] theorem wrap_l0 : IntKind.i64.wrap 0 = 0 := by decide
@[simp] theorem wrap_l1 : IntKind.i64.wrap 1 = 1 := by decide
@[simp] theorem wrap_l2 : IntKind.i64.wrap 2 = 2 := by decide
@[simp] theorem wrap_lm1 : IntKind.i64.wrap (-1) = -1 := by decide

theorem wrap_i64_in (n : Int) : -9223372036854775808 ≤ IntKind.i64.wrap n ∧ IntKind.i64.wrap n ≤ 9223372036854775807 := by
  unfold IntKind.wrap
  simp [IntKind.bits, IntKind.signed]
  omega

@[simp] theorem wrap_u8 (n : Int) : IntKind.u8.wrap n = n % 256 := by
  unfold IntKind.wrap
  simp [IntKind.bits, IntKind.signed]

theorem bits_and_255 (x : Int) : 0 ≤ bits .and .i64 x 255 ∧ bits .and .i64 x 255 ≤ 255 := by
  have h : (BitVec.ofInt 64 x &&& BitVec.ofInt 64 255).toNat ≤ 255 := by
    have : BitVec.ofInt 64 255 = 255#64 := rfl
    rw [this, BitVec.toNat_and]
    exact Nat.and_le_right
  have e : bits .and .i64 x 255 = IntKind.i64.wrap ((BitVec.ofInt 64 x &&& BitVec.ofInt 64 255).toNat : Int) := rfl
  rw [e]
  generalize (BitVec.ofInt 64 x &&& BitVec.ofInt 64 255).toNat = n at h
  rw [wrap_i64 (by omega) (by omega)]
  omega

end Go.Abs
