/- The plain law of chapter 14, continued: the dual is well-formed and its table is the opposite. -/
import Derived.Test.YtbjadcanfngijaaKleene
namespace Go.Proofs.Ytbjadcanfngijaa
namespace Way

theorem fold_opposite {x : List Int} {s o : Int} {l : List Way} (hso : (s = 0 ∧ o = 1) ∨ (s = 1 ∧ o = 0)) (h : ∀ c ∈ l, (val x c = 0 ∨ val x c = 1) ∧ val x (dual c) = 1 - val x c) :
    fold o s (l.map (fun c => val x (dual c))) = 1 - fold s o (l.map (val x)) := by
  have e2 : (2 : Int) ∉ l.map (val x) := by
    intro h1
    obtain ⟨c, hc, e⟩ := List.mem_map.1 h1
    have := (h c hc).1
    omega
  have e2' : (2 : Int) ∉ l.map (fun c => val x (dual c)) := by
    intro h1
    obtain ⟨c, hc, e⟩ := List.mem_map.1 h1
    have := h c hc
    omega
  have e1 : o ∈ l.map (fun c => val x (dual c)) ↔ s ∈ l.map (val x) := by
    constructor
    · intro h1
      obtain ⟨c, hc, e⟩ := List.mem_map.1 h1
      have := h c hc
      exact List.mem_map.2 ⟨c, hc, by omega⟩
    · intro h1
      obtain ⟨c, hc, e⟩ := List.mem_map.1 h1
      have := h c hc
      exact List.mem_map.2 ⟨c, hc, by omega⟩
  unfold fold
  by_cases h1 : s ∈ l.map (val x)
  · rw [if_pos (e1.2 h1), if_pos h1]; omega
  · rw [if_neg (fun h2 => h1 (e1.1 h2)), if_neg h1, if_neg e2, if_neg e2']; omega

/-- DE MORGAN. -/
theorem val_dual {k : Int} {x : List Int} (hx : Bin x) : ∀ {t}, Good k t → val x (dual t) = 1 - val x t := by
  intro t h
  refine Good.rec' (p := fun t => val x (dual t) = 1 - val x t) ?_ ?_ h
  · intro i n _ _
    rw [dual, if_neg (by decide), if_neg (by decide), val_sw, val_sw]
    rcases hx i.toNat with h | h <;> rw [h] <;> cases n <;> decide
  · intro kd a hk _ hg ih
    have hh : ∀ c ∈ a, (val x c = 0 ∨ val x c = 1) ∧ val x (dual c) = 1 - val x c := fun c hc => ⟨val_bin hx (hg c hc), ih c hc⟩
    rcases hk with rfl | rfl
    · rw [dual, if_pos rfl, val_parallel, val_series, duals_map, List.map_map]
      exact fold_opposite (.inl ⟨rfl, rfl⟩) hh
    · rw [dual, if_neg (by decide), if_pos rfl, val_series, val_parallel, duals_map, List.map_map]
      exact fold_opposite (.inr ⟨rfl, rfl⟩) hh

theorem good_dual {k : Int} : ∀ {t}, Good k t → Good k (dual t) := by
  intro t h
  refine Good.rec' (p := fun t => Good k (dual t)) ?_ ?_ h
  · intro i n h0 h1
    rw [dual, if_neg (by decide), if_neg (by decide)]
    exact .sw i _ h0 h1
  · intro kd a hk hne _ ih
    have hh : ∀ c ∈ duals a, Good k c := fun c hc => by
      rw [duals_map] at hc
      obtain ⟨d, hd, rfl⟩ := List.mem_map.1 hc
      exact ih d hd
    have hn : duals a ≠ [] := by rw [duals_map]; simpa using hne
    rcases hk with rfl | rfl
    · rw [dual, if_pos rfl]; exact .nd 3 _ (.inr rfl) hn hh
    · rw [dual, if_neg (by decide), if_pos rfl]; exact .nd 2 _ (.inl rfl) hn hh

theorem args_dual (t : Way) : (dual t).args = duals t.args := by
  cases t
  rw [dual]
  split
  · rfl
  · split <;> rfl
theorem pres_dual (l : List Way) (h : ∀ c ∈ l, (dual c).pre.length = c.pre.length) : (pres (duals l)).length = (pres l).length := by
  induction l with
  | nil => rfl
  | cons a l ih => rw [duals, pres, pres, List.length_append, List.length_append, h a (by simp), ih fun c hc => h c (by simp [hc])]
theorem pre_dual : ∀ t : Way, (dual t).pre.length = t.pre.length := by
  refine ind ?_
  intro t ih
  rw [pre_eq, pre_eq t, List.length_cons, List.length_cons, args_dual, pres_dual _ ih]

theorem good_bad {k : Int} : ∀ {t}, Good k t → ∀ c ∈ t.pre, bad k c = 0 := by
  intro t h
  refine Good.rec' (p := fun t => ∀ c ∈ t.pre, bad k c = 0) ?_ ?_ h
  · intro i n h0 h1 c hc
    simp only [pre, pres, List.mem_cons, List.not_mem_nil, or_false] at hc
    subst hc
    show badOf k 1 i n 0 = 0
    unfold badOf
    rw [if_pos rfl, if_neg (by omega), if_neg (by omega)]
  · intro kd a hk hne _ ih c hc
    rw [pre] at hc
    rcases List.mem_cons.1 hc with rfl | hc
    · show badOf k kd 0 false a.length = 0
      have : 0 < a.length := List.length_pos_iff.2 hne
      unfold badOf
      rw [if_neg (by omega), if_pos hk, if_neg (by simp; exact hne)]
    · have : ∀ l : List Way, (∀ d ∈ l, ∀ c ∈ d.pre, bad k c = 0) → ∀ c ∈ pres l, bad k c = 0 := by
        intro l
        induction l with
        | nil => intro _ c hc; cases hc
        | cons d l ihl =>
          intro hd c hc
          rw [pres, List.mem_append] at hc
          rcases hc with hc | hc
          · exact hd d (by simp) c hc
          · exact ihl (fun e he => hd e (by simp [he])) c hc
      exact this a ih c hc

theorem scan_ok {k : Int} : ∀ (l : List Way) (n : Int), (∀ c ∈ l, bad k c = 0) → (l.length : Int) ≤ n → (scan k l n).1 = 0 := by
  intro l
  induction l with
  | nil => intro n _ _; rfl
  | cons a l ih =>
    intro n h hn
    rw [scan, if_neg (by simp [h a]), if_neg (by simp at hn; omega)]
    exact ih _ (fun c hc => h c (by simp [hc])) (by simp at hn; omega)

theorem chk_of_good {k : Int} {t : Way} (h0 : 0 ≤ k) (h1 : k ≤ 6) (hg : Good k t) (hl : t.pre.length ≤ 40) : chk k t = 0 := by
  unfold chk
  rw [if_neg (by omega)]
  exact scan_ok _ _ (good_bad hg) (by omega)

theorem chk_dual {k : Int} {t : Way} (h : chk k t = 0) : chk k (dual t) = 0 := by
  obtain ⟨h0, h1, hg, hl⟩ := chk_good h
  exact chk_of_good h0 h1 (good_dual hg) (by rw [pre_dual]; exact hl)

theorem tab_lt (k : Nat) (t : Way) : tab k t < 2 ^ 2 ^ k := tabTo_lt k t _
theorem tab_bit (k : Nat) (t : Way) (i : Nat) : (tab k t).testBit i = (decide (i < 2 ^ k) && decide (val (rowOf k i) t = 1)) := tabTo_bit k t i _

/-- the dual's table is the opposite. -/
theorem tab_dual {k : Nat} {t : Way} (hk : k ≤ 6) (hg : Good k t) : tab k (dual t) = (2 ^ 2 ^ k - 1) &&& (18446744073709551615 - tab k t) := by
  have h64 : 2 ^ k ≤ 64 := Nat.pow_le_pow_right (n := 2) (by omega) hk
  apply Nat.eq_of_testBit_eq
  intro i
  have hlt := tab_lt k t
  have hle : 2 ^ 2 ^ k ≤ 2 ^ 64 := Nat.pow_le_pow_right (by omega) h64
  have e : (18446744073709551615 - tab k t).testBit i = (decide (i < 64) && !(tab k t).testBit i) := by
    have := Nat.testBit_two_pow_sub_succ (x := tab k t) (n := 64) (by omega) i
    rw [← this]
    congr 1
    omega
  rw [Nat.testBit_and, Nat.testBit_two_pow_sub_one, e, tab_bit, tab_bit]
  by_cases hi : i < 2 ^ k
  · have hv := val_dual (rowOf_bin k i) hg
    have hb := val_bin (rowOf_bin k i) hg
    have hi2 : i < 64 := by omega
    rcases hb with h | h
    · rw [h] at hv
      simp [hi, hi2, hv, h]
    · rw [h] at hv
      simp [hi, hi2, hv, h]
  · simp [hi]
end Way
end Go.Proofs.Ytbjadcanfngijaa
