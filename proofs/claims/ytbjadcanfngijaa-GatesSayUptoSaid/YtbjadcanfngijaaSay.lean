/- voltaiclaw.GatesSay: what its loop over the inputs tells. -/
import Derived.Test.YtbjadcanfngijaaKleeneRows
namespace Go.Proofs.Ytbjadcanfngijaa
namespace Way

/-- the error after j inputs have been looked at. -/
def badTo (xs : List Int) (q : Int) (j : Nat) : Int := if q ≠ 0 then q else if (xs.take j).any odd = true then 5 else 0
theorem badTo_zero (xs : List Int) (q : Int) : badTo xs q 0 = q := by
  unfold badTo
  by_cases h : q = 0 <;> simp [h]
theorem any_take {xs : List Int} {j : Nat} (hj : j < xs.length) : (xs.take (j + 1)).any odd = ((xs.take j).any odd || odd (xs.getD j 0)) := by
  rw [List.take_succ_eq_append_getElem hj, List.any_append]
  simp [List.getElem?_eq_getElem hj]
theorem badTo_hit {xs : List Int} {q y : Int} {j : Nat} (hj : j < xs.length) (h : badTo xs q j = 0) (hy : y = xs.getD j 0) (ho : y < 0 ∨ 2 < y) : badTo xs q (j + 1) = 5 := by
  unfold badTo at h ⊢
  have hq : q = 0 := by
    by_cases hq : q = 0
    · exact hq
    · rw [if_pos hq] at h; exact h
  rw [if_neg (show ¬ q ≠ 0 by simpa using hq), any_take hj, ← hy, (odd_iff y).2 ho]
  simp
theorem badTo_on {xs : List Int} {q b y : Int} {j : Nat} (hj : j < xs.length) (h : b = badTo xs q j) (hy : y = xs.getD j 0) (ho : ¬ (b = 0 ∧ (y < 0 ∨ 2 < y))) : b = badTo xs q (j + 1) := by
  rw [h]
  unfold badTo at h ⊢
  by_cases hq : q = 0
  · rw [if_neg (show ¬ q ≠ 0 by simpa using hq)] at h
    rw [if_neg (show ¬ q ≠ 0 by simpa using hq), if_neg (show ¬ q ≠ 0 by simpa using hq), any_take hj, ← hy]
    by_cases ha : (xs.take j).any odd = true
    · rw [ha]; simp
    · rw [if_neg ha] at h
      have hn : ¬ odd y = true := fun e => ho ⟨h, (odd_iff y).1 e⟩
      simp [hn]
  · rw [if_pos hq, if_pos hq]
theorem badTo_end {xs : List Int} {t : Way} {j : Nat} (hj : ¬ j < xs.length) : badTo xs (chk xs.length t) j = (closed xs t).2 := by
  unfold badTo closed
  rw [List.take_of_length_le (by omega)]
  by_cases h : chk xs.length t = 0
  · rw [if_neg (show ¬ chk xs.length t ≠ 0 by simpa using h), if_neg (show ¬ chk xs.length t ≠ 0 by simpa using h)]
    split <;> rfl
  · rw [if_pos h, if_pos h]
theorem closed_zero {xs : List Int} {t : Way} {r1 r2 : Int} (h : closed xs t = (r1, r2)) (h2 : r2 = 0) : chk xs.length t = 0 ∧ ¬ xs.any odd = true ∧ r1 = val xs t := by
  unfold closed at h
  split at h
  · rename_i h1
    injection h with e1 e2
    exact absurd (e2.trans h2) h1
  · rename_i h1
    split at h
    · injection h with e1 e2
      omega
    · rename_i h3
      injection h with e1 e2
      exact ⟨by simpa using h1, h3, e1.symm⟩
theorem closed_one {xs : List Int} {t : Way} {r1 r2 : Int} (h : closed xs t = (r1, r2)) (h2 : ¬ r2 = 0) : r1 = 0 := by
  unfold closed at h
  split at h
  · injection h with e1 e2; exact e1.symm
  · split at h
    · injection h with e1 e2; exact e1.symm
    · injection h with e1 e2; exact absurd e2.symm h2
end Way
end Go.Proofs.Ytbjadcanfngijaa
