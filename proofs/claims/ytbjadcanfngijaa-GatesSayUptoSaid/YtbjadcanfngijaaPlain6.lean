/- The plain law, continued: the risks. -/
import Derived.Test.YtbjadcanfngijaaPlain3
namespace Go.Proofs.Ytbjadcanfngijaa
namespace Way
def riskB (k : Nat) (t : Way) (a i : Nat) : Bool := !a.testBit i && ((tab k t).testBit a && ((tab k t).testBit (a ||| 2 ^ i) && decide (val ((rowOf k a).set i 2) t = 2)))
def riskAt (k : Nat) (t : Way) (a i : Nat) : List (Int × Int) := if riskB k t a i = true then [((a : Int), ((a ||| 2 ^ i : Nat) : Int))] else []
def riskRow (k : Nat) (t : Way) (a m : Nat) : List (Int × Int) := (List.range m).flatMap (riskAt k t a)
def risksTo (k : Nat) (t : Way) (r : Nat) : List (Int × Int) := (List.range r).flatMap fun a => riskRow k t a k
theorem riskRow_succ (k : Nat) (t : Way) (a m : Nat) : riskRow k t a (m + 1) = riskRow k t a m ++ riskAt k t a m := by
  simp [riskRow, List.range_succ, List.flatMap_append]
theorem risksTo_succ (k : Nat) (t : Way) (r : Nat) : risksTo k t (r + 1) = risksTo k t r ++ riskRow k t r k := by
  simp [risksTo, List.range_succ, List.flatMap_append]
theorem riskRow_len (k : Nat) (t : Way) (a m : Nat) : (riskRow k t a m).length ≤ m := by
  induction m with
  | zero => simp [riskRow]
  | succ m ih => rw [riskRow_succ, List.length_append]; unfold riskAt; split <;> simp <;> omega
theorem risksTo_len (k : Nat) (t : Way) (r : Nat) : (risksTo k t r).length ≤ r * k := by
  induction r with
  | zero => simp [risksTo]
  | succ r ih => rw [risksTo_succ, List.length_append, Nat.succ_mul]; have := riskRow_len k t r k; omega
def risks (k : Nat) (t : Way) : List (Int × Int) := risksTo k t (2 ^ k)
end Way
end Go.Proofs.Ytbjadcanfngijaa
