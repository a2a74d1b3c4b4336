/- The plain law, continued: rows of a table, and the table. -/
import Derived.Test.YtbjadcanfngijaaPlain2
namespace Go.Proofs.Ytbjadcanfngijaa
namespace Way
/-- the bit i of r. -/
def bitI (r i : Nat) : Int := if r.testBit i then 1 else 0
theorem bitI_bd (r i : Nat) : 0 ≤ bitI r i ∧ bitI r i ≤ 1 := by unfold bitI; split <;> omega
/-- the inputs that the number r has as its bits. -/
def rowOf (k r : Nat) : List Int := (List.range k).map (bitI r)
theorem rowOf_length (k r : Nat) : (rowOf k r).length = k := by simp [rowOf]
theorem rowOf_get (k r i : Nat) (h : i < k) : (rowOf k r).getD i 0 = bitI r i := by simp [rowOf, h]
theorem rowOf_bd (k r : Nat) : ∀ j, 0 ≤ (rowOf k r).getD j 0 ∧ (rowOf k r).getD j 0 ≤ 2 := by
  intro j
  by_cases hj : j < k
  · rw [rowOf_get k r j hj]; have := bitI_bd r j; omega
  · have : (rowOf k r)[j]? = none := by rw [List.getElem?_eq_none]; rw [rowOf_length]; omega
    simp [List.getD, this]
/-- the table's first r rows. -/
def tabTo (k : Nat) (t : Way) : Nat → Nat
  | 0 => 0
  | r + 1 => if val (rowOf k r) t = 1 then tabTo k t r ||| 2 ^ r else tabTo k t r
theorem tabTo_lt (k : Nat) (t : Way) : ∀ r, tabTo k t r < 2 ^ r := by
  intro r
  induction r with
  | zero => simp [tabTo]
  | succ r ih =>
    rw [tabTo]
    have h2 : 2 ^ r < 2 ^ (r + 1) := Nat.pow_lt_pow_right (by omega) (by omega)
    split
    · exact Nat.or_lt_two_pow (by omega) h2
    · omega
theorem tabTo_bit (k : Nat) (t : Way) (i : Nat) : ∀ r, (tabTo k t r).testBit i = (decide (i < r) && decide (val (rowOf k i) t = 1)) := by
  intro r
  induction r with
  | zero => simp [tabTo]
  | succ r ih =>
    rw [tabTo]
    by_cases hv : val (rowOf k r) t = 1
    · rw [if_pos hv, Nat.testBit_or, ih, Nat.testBit_two_pow]
      by_cases hi : r = i
      · subst hi; simp [hv]
      · have : (i < r + 1) ↔ i < r := by omega
        simp [hi, this]
    · rw [if_neg hv, ih]
      by_cases hi : i = r
      · subst hi; simp [hv]
      · have : (i < r + 1) ↔ i < r := by omega
        simp [this]
def tab (k : Nat) (t : Way) : Nat := tabTo k t (2 ^ k)
/-- chapter 14's Table. -/
def table (k : Int) (t : Way) : Int × Int := if chk k t ≠ 0 then (0, chk k t) else ((tab k.toNat t : Nat), 0)
theorem bit_int (r i : Nat) : ((r / 2 ^ i % 2 : Nat) : Int) = bitI r i := by
  unfold bitI
  rw [Nat.testBit_eq_decide_div_mod_eq]
  have : r / 2 ^ i % 2 < 2 := Nat.mod_lt _ (by omega)
  by_cases h : r / 2 ^ i % 2 = 1
  · simp [h]
  · have h0 : r / 2 ^ i % 2 = 0 := by omega
    simp [h0]
end Way
end Go.Proofs.Ytbjadcanfngijaa
