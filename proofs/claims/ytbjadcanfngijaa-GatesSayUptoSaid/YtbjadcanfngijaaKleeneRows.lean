/- The plain law of GatesKleene's loops: which values the rows that fit can have. -/
import Derived.Test.YtbjadcanfngijaaOpposite
namespace Go.Proofs.Ytbjadcanfngijaa
namespace Way

def fitTo (x : List Int) (r : Nat) : Nat → Bool
  | 0 => true
  | j + 1 => fitTo x r j && (decide (x.getD j 0 = 2) || decide (x.getD j 0 = bitI r j))
def oneTo (x : List Int) (T : Nat) : Nat → Bool
  | 0 => false
  | r + 1 => oneTo x T r || (fitTo x r x.length && T.testBit r)
def zeroTo (x : List Int) (T : Nat) : Nat → Bool
  | 0 => false
  | r + 1 => zeroTo x T r || (fitTo x r x.length && !T.testBit r)

theorem fitTo_iff (x : List Int) (r : Nat) : ∀ m, fitTo x r m = true ↔ ∀ j, j < m → x.getD j 0 = 2 ∨ x.getD j 0 = bitI r j := by
  intro m
  induction m with
  | zero => simp [fitTo]
  | succ m ih =>
    rw [fitTo, Bool.and_eq_true, ih, Bool.or_eq_true, decide_eq_true_iff, decide_eq_true_iff]
    constructor
    · rintro ⟨h1, h2⟩ j hj
      rcases Nat.lt_succ_iff_lt_or_eq.1 hj with h | rfl
      · exact h1 j h
      · exact h2
    · intro h
      exact ⟨fun j hj => h j (by omega), h m (by omega)⟩
theorem oneTo_iff (x : List Int) (T : Nat) : ∀ m, oneTo x T m = true ↔ ∃ r, r < m ∧ fitTo x r x.length = true ∧ T.testBit r = true := by
  intro m
  induction m with
  | zero => simp [oneTo]
  | succ m ih =>
    rw [oneTo, Bool.or_eq_true, ih, Bool.and_eq_true]
    constructor
    · rintro (⟨r, h1, h2⟩ | h)
      · exact ⟨r, by omega, h2⟩
      · exact ⟨m, by omega, h⟩
    · rintro ⟨r, h1, h2⟩
      rcases Nat.lt_succ_iff_lt_or_eq.1 h1 with h | rfl
      · exact .inl ⟨r, h, h2⟩
      · exact .inr h2
theorem zeroTo_iff (x : List Int) (T : Nat) : ∀ m, zeroTo x T m = true ↔ ∃ r, r < m ∧ fitTo x r x.length = true ∧ T.testBit r = false := by
  intro m
  induction m with
  | zero => simp [zeroTo]
  | succ m ih =>
    rw [zeroTo, Bool.or_eq_true, ih, Bool.and_eq_true, Bool.not_eq_true']
    constructor
    · rintro (⟨r, h1, h2⟩ | h)
      · exact ⟨r, by omega, h2⟩
      · exact ⟨m, by omega, h⟩
    · rintro ⟨r, h1, h2⟩
      rcases Nat.lt_succ_iff_lt_or_eq.1 h1 with h | rfl
      · exact .inl ⟨r, h, h2⟩
      · exact .inr h2

theorem tri_of {x : List Int} (h : ¬ x.any odd = true) : Tri x := fun j => by have := even_all h j; omega
theorem fits_row {x : List Int} {r : Nat} (h : fitTo x r x.length = true) : Fits x (rowOf x.length r) := by
  intro j
  by_cases hj : j < x.length
  · rw [rowOf_get _ _ _ hj]; exact (fitTo_iff x r _).1 h j hj
  · right
    have e1 : x[j]? = none := List.getElem?_eq_none (by omega)
    have e2 : (rowOf x.length r)[j]? = none := List.getElem?_eq_none (by rw [rowOf_length]; omega)
    simp [List.getD, e1, e2]
theorem row_fits {x y : List Int} (h : Fits x y) (hl : y.length = x.length) (hb : Bin y) : fitTo x (toNum y) x.length = true := by
  refine (fitTo_iff x _ _).2 fun j hj => ?_
  rcases h j with h | h
  · exact .inl h
  · right
    have := rowOf_toNum hb
    rw [h]
    have h2 := rowOf_get y.length (toNum y) j (by omega)
    rw [this] at h2
    exact h2

section
variable {x : List Int} {t : Way}
theorem known_zero (hg : Good x.length t) (h : val x t = 0) : oneTo x (tab x.length t) (2 ^ x.length) = false := by
  rw [Bool.eq_false_iff]
  intro h1
  obtain ⟨r, hr, hf, hb⟩ := (oneTo_iff _ _ _).1 h1
  rw [tab_bit] at hb
  have hv := val_mono (fits_row hf) hg
  simp at hb
  omega
theorem known_one (hg : Good x.length t) (h : val x t = 1) : zeroTo x (tab x.length t) (2 ^ x.length) = false := by
  rw [Bool.eq_false_iff]
  intro h1
  obtain ⟨r, hr, hf, hb⟩ := (zeroTo_iff _ _ _).1 h1
  rw [tab_bit] at hb
  have hv := val_mono (fits_row hf) hg
  simp [hr] at hb
  omega
theorem either (hx : Tri x) (hg : Good x.length t) (ho : (one t []).1 = true) (h : val x t = 2) : zeroTo x (tab x.length t) (2 ^ x.length) = true ∧ oneTo x (tab x.length t) (2 ^ x.length) = true := by
  have hc := can_any hg [] ho x hx
  obtain ⟨y0, l0, f0, b0, v0⟩ := hc 0 (.inl rfl) (.inl h)
  obtain ⟨y1, l1, f1, b1, v1⟩ := hc 1 (.inr rfl) (.inl h)
  constructor
  · refine (zeroTo_iff _ _ _).2 ⟨toNum y0, by rw [← l0]; exact toNum_lt y0, row_fits f0 l0 b0, ?_⟩
    rw [tab_bit]
    have := rowOf_toNum b0
    rw [l0] at this
    rw [this, v0]
    simp
  · refine (oneTo_iff _ _ _).2 ⟨toNum y1, by rw [← l1]; exact toNum_lt y1, row_fits f1 l1 b1, ?_⟩
    rw [tab_bit]
    have := rowOf_toNum b1
    rw [l1] at this
    rw [this, v1]
    have h2 := toNum_lt y1
    rw [l1] at h2
    simp [h2]
end
end Way
end Go.Proofs.Ytbjadcanfngijaa
