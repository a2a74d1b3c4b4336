/- Go's operations on bits, continued: the forms that the walk of Risks meets. -/
import Derived.Test.YtbjadcanfngijaaBits
namespace Go.Proofs.Ytbjadcanfngijaa
open Go.RowKit

theorem ofInt_i64 (a : Nat) (ha : a < 9223372036854775808) : (BitVec.ofInt 64 (a : Int)).toNat = a := by
  rw [BitVec.ofInt_natCast, BitVec.toNat_ofNat]; exact Nat.mod_eq_of_lt (by omega)
theorem i64_or_nat (a b : Nat) (ha : a < 4611686018427387904) (hb : b < 4611686018427387904) : bits .or .i64 (a : Int) (b : Int) = ((a ||| b : Nat) : Int) := by
  have hx : a ||| b < 2 ^ 62 := Nat.or_lt_two_pow (by omega) (by omega)
  show IntKind.i64.wrap ((BitVec.ofInt 64 (a : Int) ||| BitVec.ofInt 64 (b : Int)).toNat : Int) = _
  rw [BitVec.toNat_or, ofInt_i64 a (by omega), ofInt_i64 b (by omega), IntKind.wrap_i64]
  omega
theorem or_pow {a j bb : Nat} (ha : a < 64) (hj : j < 6) (hb : bb = a ||| 2 ^ j) : bits BinOp.or IntKind.i64 (a : Int) (wrap64 (2 ^ j)) = (bb : Int) := by
  have h : 2 ^ j ≤ 64 := Nat.pow_le_pow_right (n := 2) (by omega) (show j ≤ 6 by omega)
  rw [pow_small (N := 2 ^ j) rfl h, i64_or_nat _ _ (by omega) (by omega), hb]
theorem or_lt {a j k : Nat} (ha : a < 2 ^ k) (hj : j < k) : a ||| 2 ^ j < 2 ^ k := Nat.or_lt_two_pow ha (Nat.pow_lt_pow_right (by omega) hj)
theorem or_same {a j : Nat} : a = a ||| 2 ^ j ↔ a.testBit j = true := by
  constructor
  · intro h
    rw [h, Nat.testBit_or, Nat.testBit_two_pow]
    simp
  · intro h
    apply Nat.eq_of_testBit_eq
    intro i
    rw [Nat.testBit_or, Nat.testBit_two_pow]
    by_cases hi : j = i
    · subst hi; simp [h]
    · simp [hi]
theorem tab_and {T r : Nat} (hT : T < 18446744073709551616) : bits BinOp.and IntKind.u64 ((T : Int) / 2 ^ r) 1 = Way.bitI T r := by
  have hd : ((T : Int) / 2 ^ r) = ((T / 2 ^ r : Nat) : Int) := by simp
  have hle : T / 2 ^ r ≤ T := Nat.div_le_self _ _
  rw [hd]
  show bits BinOp.and IntKind.u64 ((T / 2 ^ r : Nat) : Int) ((1 : Nat) : Int) = _
  rw [u64_and_nat _ 1 (by omega) (by omega), ← Way.bit_int, Nat.and_one_is_mod]
theorem bitI_zero {T r : Nat} : (Way.bitI T r == 0) = !T.testBit r := by
  unfold Way.bitI
  cases T.testBit r <;> simp
end Go.Proofs.Ytbjadcanfngijaa
