/- Go's operations on bits, in the forms that the walks of a table meet. -/
import Derived.WalkKit
import Derived.WalkSmall
import Derived.Test.YtbjadcanfngijaaPlain3
namespace Go.Proofs.Ytbjadcanfngijaa
open Go.RowKit

theorem i64_and1 (n : Int) : bits .and .i64 n 1 = n % 2 := by
  have h1 : (BitVec.ofInt 64 1).toNat = 2 ^ 1 - 1 := by decide
  have key : (BitVec.ofInt 64 n &&& BitVec.ofInt 64 1).toNat = (n % ((2 ^ 64 : Nat) : Int)).toNat % 2 ^ 1 := by
    rw [BitVec.toNat_and, BitVec.toNat_ofInt, h1, Nat.and_two_pow_sub_one_eq_mod]
  show IntKind.i64.wrap ((BitVec.ofInt 64 n &&& BitVec.ofInt 64 1).toNat : Nat) = n % 2
  rw [key, IntKind.wrap_i64]
  omega

theorem row_bit (r j : Nat) : bits BinOp.and IntKind.i64 ((r : Int) / 2 ^ j) 1 = Way.bitI r j := by
  rw [i64_and1, ← Way.bit_int]
  simp

theorem pow_small {k N : Nat} (hN : N = 2 ^ k) (hb : N ≤ 64) : wrap64 ((2 : Int) ^ k) = N := by
  have h : ((2 : Int) ^ k) = (N : Int) := by rw [hN]; simp
  rw [h]
  exact IntWalk.wrap64_in _ (by omega)
theorem u64_shl {r : Nat} (hr : r < 64) : IntKind.u64.wrap ((2 : Int) ^ r) = ((2 ^ r : Nat) : Int) := by
  have h : 2 ^ r < 2 ^ 64 := Nat.pow_lt_pow_right (by omega) hr
  rw [show ((2 : Int) ^ r) = ((2 ^ r : Nat) : Int) by simp, IntKind.wrap_u64]
  generalize 2 ^ r = n at h ⊢
  omega
theorem or_bit {a r : Nat} (ha : a < 2 ^ r) (hr : r < 64) : bits BinOp.or IntKind.u64 (a : Int) (IntKind.u64.wrap (2 ^ r)) = ((a ||| 2 ^ r : Nat) : Int) := by
  have h : 2 ^ r < 2 ^ 64 := Nat.pow_lt_pow_right (by omega) hr
  rw [u64_shl hr, u64_or_nat _ _ (by omega) (by omega)]
end Go.Proofs.Ytbjadcanfngijaa
