/- The plain law, continued: inputs that are no 0, 1, 2. -/
import Derived.Test.YtbjadcanfngijaaPlain
namespace Go.Proofs.Ytbjadcanfngijaa
namespace Way

theorem odd_iff (v : Int) : odd v = true ↔ v < 0 ∨ 2 < v := by simp [odd]
theorem even_all {xs : List Int} (h : ¬ xs.any odd = true) : ∀ j, 0 ≤ xs.getD j 0 ∧ xs.getD j 0 ≤ 2 := by
  intro j
  by_cases hj : j < xs.length
  · have : ¬ odd xs[j] = true := fun ho => h (List.any_eq_true.2 ⟨_, List.getElem_mem hj, ho⟩)
    rw [odd_iff] at this
    simp only [List.getD, List.getElem?_eq_getElem hj, Option.getD_some]
    omega
  · simp [List.getD, List.getElem?_eq_none (Nat.le_of_not_lt hj)]
theorem any_hit {xs : List Int} {j : Nat} (hj : j < xs.length) (h : xs.getD j 0 < 0 ∨ 2 < xs.getD j 0) : xs.any odd = true := by
  refine List.any_eq_true.2 ⟨_, List.getElem_mem hj, (odd_iff _).2 ?_⟩
  simpa [List.getD, List.getElem?_eq_getElem hj] using h
theorem any_on {xs : List Int} {j : Nat} (hv : xs.any odd = (xs.drop j).any odd) (hj : j < xs.length) (h : ¬ (xs.getD j 0 < 0 ∨ 2 < xs.getD j 0)) : xs.any odd = (xs.drop (j + 1)).any odd := by
  rw [hv, List.drop_eq_getElem_cons hj, List.any_cons]
  have : odd xs[j] = false := by
    have : ¬ odd xs[j] = true := by
      rw [odd_iff]
      simpa [List.getD, List.getElem?_eq_getElem hj] using h
    simpa using this
  rw [this, Bool.false_or]
theorem any_end {xs : List Int} {j : Nat} (hv : xs.any odd = (xs.drop j).any odd) (hj : ¬ j < xs.length) : ¬ xs.any odd = true := by
  rw [hv, List.drop_of_length_le (by omega)]
  simp
end Way
end Go.Proofs.Ytbjadcanfngijaa
