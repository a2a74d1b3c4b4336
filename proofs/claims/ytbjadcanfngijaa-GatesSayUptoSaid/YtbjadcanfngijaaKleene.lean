/- The plain law of chapter 14: what is known stays known (Kleene); where each input stands once, what is not known can be either; the dual is the opposite (De Morgan). -/
import Derived.Test.YtbjadcanfngijaaPlain5
namespace Go.Proofs.Ytbjadcanfngijaa
namespace Way

/-- a list of values under Series (s = 0, o = 1) or Parallel (s = 1, o = 0). -/
def fold (s o : Int) (vs : List Int) : Int := if s ∈ vs then s else if 2 ∈ vs then 2 else o

theorem vals_fold (x : List Int) (s : Int) : ∀ (l : List Way) (o : Int), vals x s o l = fold s o (l.map (val x)) := by
  intro l
  induction l with
  | nil => intro o; simp [vals, fold]
  | cons a l ih =>
    intro o
    rw [vals]
    by_cases h1 : val x a = s
    · rw [if_pos h1]; simp [fold, h1]
    · rw [if_neg h1]
      have h1' : ¬ s = val x a := fun e => h1 e.symm
      by_cases h2 : val x a = 2
      · have hs2 : ¬ s = 2 := by rw [← h2]; exact h1'
        rw [if_pos h2, ih]
        simp only [fold, List.map_cons, List.mem_cons, hs2, h2, false_or, true_or, if_true]
        split
        · rfl
        · split <;> rfl
      · rw [if_neg h2, ih]
        have h2' : ¬ 2 = val x a := fun e => h2 e.symm
        simp only [fold, List.map_cons, List.mem_cons, h1', h2', false_or]

theorem val_sw (x : List Int) (i : Int) (n : Bool) (a : List Way) : val x (mk 1 i n a) = if n = true ∧ x.getD i.toNat 0 < 2 then 1 - x.getD i.toNat 0 else x.getD i.toNat 0 := by simp [val]
theorem val_series (x : List Int) (i : Int) (n : Bool) (a : List Way) : val x (mk 2 i n a) = fold 0 1 (a.map (val x)) := by
  rw [val, if_neg (by decide), if_neg (by decide), if_neg (by decide), vals_fold]
theorem val_parallel (x : List Int) (i : Int) (n : Bool) (a : List Way) : val x (mk 3 i n a) = fold 1 0 (a.map (val x)) := by
  rw [val, if_neg (by decide), if_pos rfl, if_pos rfl, vals_fold]

/-- well-formed expressions, one by one. -/
theorem Good.rec' {k : Int} {p : Way → Prop} (hs : ∀ i n, 0 ≤ i → i < k → p (mk 1 i n [])) (hn : ∀ kd a, kd = 2 ∨ kd = 3 → a ≠ [] → (∀ c ∈ a, Good k c) → (∀ c ∈ a, p c) → p (mk kd 0 false a)) : ∀ {t}, Good k t → p t := by
  intro t h
  induction h with
  | sw i n h0 h1 => exact hs i n h0 h1
  | nd kd a hk ha hg ih => exact hn kd a hk ha hg ih

def Tri (x : List Int) : Prop := ∀ j, x.getD j 0 = 0 ∨ x.getD j 0 = 1 ∨ x.getD j 0 = 2
def Bin (x : List Int) : Prop := ∀ j, x.getD j 0 = 0 ∨ x.getD j 0 = 1

theorem fold_tri {s o : Int} {vs : List Int} (hs : s = 0 ∨ s = 1) (ho : o = 0 ∨ o = 1) : fold s o vs = 0 ∨ fold s o vs = 1 ∨ fold s o vs = 2 := by
  unfold fold
  split
  · omega
  · split <;> omega
theorem val_tri {k : Int} {x : List Int} (hx : Tri x) : ∀ {t}, Good k t → val x t = 0 ∨ val x t = 1 ∨ val x t = 2 := by
  intro t h
  refine Good.rec' (p := fun t => val x t = 0 ∨ val x t = 1 ∨ val x t = 2) ?_ ?_ h
  · intro i n _ _
    rw [val_sw]
    have := hx i.toNat
    split <;> omega
  · intro kd a hk _ _ _
    rcases hk with rfl | rfl
    · rw [val_series]; exact fold_tri (.inl rfl) (.inr rfl)
    · rw [val_parallel]; exact fold_tri (.inr rfl) (.inl rfl)
theorem Bin.tri {x : List Int} (h : Bin x) : Tri x := fun j => by have := h j; omega
theorem fold_bin {s o : Int} {vs : List Int} (h : ∀ v ∈ vs, v = 0 ∨ v = 1) (hs : s = 0 ∨ s = 1) (ho : o = 0 ∨ o = 1) : fold s o vs = 0 ∨ fold s o vs = 1 := by
  unfold fold
  split
  · omega
  · split
    · rename_i h2; have := h 2 h2; omega
    · omega
theorem val_bin {k : Int} {x : List Int} (hx : Bin x) : ∀ {t}, Good k t → val x t = 0 ∨ val x t = 1 := by
  intro t h
  refine Good.rec' (p := fun t => val x t = 0 ∨ val x t = 1) ?_ ?_ h
  · intro i n _ _
    rw [val_sw]
    have := hx i.toNat
    split <;> omega
  · intro kd a hk _ _ ih
    have hv : ∀ v ∈ a.map (val x), v = 0 ∨ v = 1 := fun v hv => by
      obtain ⟨c, hc, rfl⟩ := List.mem_map.1 hv
      exact ih c hc
    rcases hk with rfl | rfl
    · rw [val_series]; exact fold_bin hv (.inl rfl) (.inr rfl)
    · rw [val_parallel]; exact fold_bin hv (.inr rfl) (.inl rfl)

/-- y tells what x tells, and more. -/
def Fits (x y : List Int) : Prop := ∀ j, x.getD j 0 = 2 ∨ x.getD j 0 = y.getD j 0

theorem fold_mono {s o : Int} {l : List Way} {f g : Way → Int} (hs : s ≠ 2) (h : ∀ c ∈ l, f c = 2 ∨ f c = g c) : fold s o (l.map f) = 2 ∨ fold s o (l.map f) = fold s o (l.map g) := by
  by_cases h1 : s ∈ l.map f
  · right
    obtain ⟨c, hc, e⟩ := List.mem_map.1 h1
    have : s ∈ l.map g := by
      rcases h c hc with h2 | h2
      · omega
      · exact List.mem_map.2 ⟨c, hc, by rw [← h2, e]⟩
    simp only [fold, h1, this, if_true]
  · by_cases h2 : 2 ∈ l.map f
    · left; simp only [fold, h1, h2, if_true, if_false]
    · right
      have e : l.map f = l.map g := List.map_congr_left fun c hc => by
        rcases h c hc with h3 | h3
        · exact absurd (List.mem_map.2 ⟨c, hc, h3⟩) h2
        · exact h3
      rw [e]

/-- KLEENE: what is known is so whatever the others are. -/
theorem val_mono {k : Int} {x y : List Int} (hf : Fits x y) : ∀ {t}, Good k t → val x t = 2 ∨ val x t = val y t := by
  intro t h
  refine Good.rec' (p := fun t => val x t = 2 ∨ val x t = val y t) ?_ ?_ h
  · intro i n _ _
    rw [val_sw, val_sw]
    rcases hf i.toNat with h1 | h1
    · left; rw [h1, if_neg (by omega)]
    · right; rw [h1]
  · intro kd a hk _ _ ih
    rcases hk with rfl | rfl
    · rw [val_series, val_series]; exact fold_mono (by decide) ih
    · rw [val_parallel, val_parallel]; exact fold_mono (by decide) ih

/-! ### each input once -/
mutual
def vars : Way → List Int
  | mk kd i _ a => if kd = 1 then [i] else varss a
def varss : List Way → List Int
  | [] => []
  | c :: r => vars c ++ varss r
end

theorem mem_varss {i : Int} {l : List Way} : i ∈ varss l ↔ ∃ c ∈ l, i ∈ vars c := by
  induction l with
  | nil => simp [varss]
  | cons c r ih => simp [varss, ih]

theorem val_congr {k : Int} {x y : List Int} : ∀ {t}, Good k t → (∀ i ∈ vars t, x.getD i.toNat 0 = y.getD i.toNat 0) → val x t = val y t := by
  intro t h
  refine Good.rec' (p := fun t => (∀ i ∈ vars t, x.getD i.toNat 0 = y.getD i.toNat 0) → val x t = val y t) ?_ ?_ h
  · intro i n _ _ hv
    rw [val_sw, val_sw, hv i (by simp [vars])]
  · intro kd a hk _ _ ih hv
    have e : a.map (val x) = a.map (val y) := List.map_congr_left fun c hc => ih c hc fun i hi => hv i (by rw [vars, if_neg (by omega)]; exact mem_varss.2 ⟨c, hc, hi⟩)
    rcases hk with rfl | rfl
    · rw [val_series, val_series, e]
    · rw [val_parallel, val_parallel, e]

theorem vars_nonneg {k : Int} : ∀ {t}, Good k t → ∀ i ∈ vars t, 0 ≤ i := by
  intro t h
  refine Good.rec' (p := fun t => ∀ i ∈ vars t, 0 ≤ i) ?_ ?_ h
  · intro i n h0 _ j hj
    simp only [vars, if_true, List.mem_singleton] at hj
    omega
  · intro kd a hk _ _ ih j hj
    rw [vars, if_neg (by omega)] at hj
    obtain ⟨c, hc, hi⟩ := mem_varss.1 hj
    exact ih c hc j hi

theorem ones_true : ∀ (l : List Way), (∀ c ∈ l, ∀ s, (one c s).1 = true → (∀ i ∈ vars c, i ∉ s) ∧ ∀ i, i ∈ (one c s).2 ↔ i ∈ vars c ∨ i ∈ s) →
    ∀ s, (ones l s).1 = true → (∀ i ∈ varss l, i ∉ s) ∧ ∀ i, i ∈ (ones l s).2 ↔ i ∈ varss l ∨ i ∈ s := by
  intro l
  induction l with
  | nil => intro _ s _; simp [ones, varss]
  | cons c r ih =>
    intro hc s h
    rw [ones] at h ⊢
    by_cases h1 : (one c s).1 = true
    · rw [if_pos h1] at h ⊢
      obtain ⟨a1, a2⟩ := hc c (by simp) s h1
      obtain ⟨b1, b2⟩ := ih (fun d hd => hc d (by simp [hd])) _ h
      refine ⟨fun i hi => ?_, fun i => ?_⟩
      · rw [varss, List.mem_append] at hi
        rcases hi with hi | hi
        · exact a1 i hi
        · intro hs; exact b1 i hi ((a2 i).2 (.inr hs))
      · rw [b2, a2, varss, List.mem_append]
        constructor
        · rintro (h | h | h)
          · exact .inl (.inr h)
          · exact .inl (.inl h)
          · exact .inr h
        · rintro ((h | h) | h)
          · exact .inr (.inl h)
          · exact .inl h
          · exact .inr (.inr h)
    · rw [if_neg h1] at h; cases h

theorem one_true {k : Int} : ∀ {t}, Good k t → ∀ s, (one t s).1 = true → (∀ i ∈ vars t, i ∉ s) ∧ ∀ i, i ∈ (one t s).2 ↔ i ∈ vars t ∨ i ∈ s := by
  intro t h
  refine Good.rec' (p := fun t => ∀ s, (one t s).1 = true → (∀ i ∈ vars t, i ∉ s) ∧ ∀ i, i ∈ (one t s).2 ↔ i ∈ vars t ∨ i ∈ s) ?_ ?_ h
  · intro i n _ _ s h
    rw [one, if_pos rfl] at h ⊢
    simp only [vars, if_true]
    refine ⟨by simpa using h, by simp⟩
  · intro kd a hk _ _ ih s h
    rw [one, if_neg (by omega)] at h ⊢
    rw [vars, if_neg (by omega)]
    exact ones_true a ih s h

/-- some inputs for those that are not known. -/
theorem fill (x : List Int) (hx : Tri x) : ∃ y, y.length = x.length ∧ Fits x y ∧ Bin y := by
  refine ⟨x.map (fun v => if v = 2 then 0 else v), by simp, fun j => ?_, fun j => ?_⟩
  · by_cases hj : j < x.length
    · simp only [List.getD, List.getElem?_map, List.getElem?_eq_getElem hj, Option.map_some, Option.getD_some]
      split <;> omega
    · simp [List.getD, List.getElem?_eq_none (Nat.le_of_not_lt hj)]
  · have := hx j
    by_cases hj : j < x.length
    · simp only [List.getD, List.getElem?_map, List.getElem?_eq_getElem hj, Option.map_some, Option.getD_some] at this ⊢
      split <;> omega
    · simp [List.getD, List.getElem?_eq_none (Nat.le_of_not_lt hj)]

/-- y1 at the inputs of V, y2 at the others. -/
def mix (V : List Int) (y1 y2 : List Int) (m : Nat) : List Int := (List.range m).map fun (i : Nat) => if (i : Int) ∈ V then y1.getD i 0 else y2.getD i 0
theorem mix_get {V y1 y2 : List Int} {m j : Nat} (h1 : y1.length = m) (h2 : y2.length = m) : (mix V y1 y2 m).getD j 0 = if (j : Int) ∈ V then y1.getD j 0 else y2.getD j 0 := by
  by_cases hj : j < m
  · simp [mix, List.getD, hj]
  · have e1 : y1[j]? = none := List.getElem?_eq_none (by omega)
    have e2 : y2[j]? = none := List.getElem?_eq_none (by omega)
    simp [mix, List.getD, hj, e1, e2]

def Can (t : Way) : Prop := ∀ s, (one t s).1 = true → ∀ x, Tri x → ∀ b, (b = 0 ∨ b = 1) → (val x t = 2 ∨ val x t = b) → ∃ y, y.length = x.length ∧ Fits x y ∧ Bin y ∧ val y t = b

theorem can_all {k : Int} : ∀ (l : List Way), (∀ c ∈ l, Good k c) → (∀ c ∈ l, Can c) → ∀ s, (ones l s).1 = true → ∀ x, Tri x → ∀ b, (b = 0 ∨ b = 1) → (∀ c ∈ l, val x c = 2 ∨ val x c = b) →
    ∃ y, y.length = x.length ∧ Fits x y ∧ Bin y ∧ ∀ c ∈ l, val y c = b := by
  intro l
  induction l with
  | nil =>
    intro _ _ s _ x hx b _ _
    obtain ⟨y, h1, h2, h3⟩ := fill x hx
    exact ⟨y, h1, h2, h3, fun c hc => by cases hc⟩
  | cons c r ih =>
    intro hg hc s h x hx b hb hv
    rw [ones] at h
    by_cases h1 : (one c s).1 = true
    · rw [if_pos h1] at h
      obtain ⟨y1, l1, f1, b1, v1⟩ := hc c (by simp) s h1 x hx b hb (hv c (by simp))
      obtain ⟨y2, l2, f2, b2, v2⟩ := ih (fun d hd => hg d (by simp [hd])) (fun d hd => hc d (by simp [hd])) _ h x hx b hb (fun d hd => hv d (by simp [hd]))
      have hone := one_true (hg c (by simp)) s h1
      have hones := ones_true r (fun d hd => one_true (hg d (by simp [hd]))) _ h
      refine ⟨mix (vars c) y1 y2 x.length, by simp [mix], fun j => ?_, fun j => ?_, fun d hd => ?_⟩
      · rw [mix_get l1 l2]
        split
        · exact f1 j
        · exact f2 j
      · rw [mix_get l1 l2]
        split
        · exact b1 j
        · exact b2 j
      · have nn : ∀ e ∈ c :: r, ∀ i ∈ vars e, 0 ≤ i := by
          intro e he i hi
          exact vars_nonneg (hg e he) i hi
        rcases List.mem_cons.1 hd with rfl | hd'
        · rw [← v1]
          refine val_congr (hg d (by simp)) fun i hi => ?_
          rw [mix_get l1 l2, Int.toNat_of_nonneg (nn d (by simp) i hi), if_pos hi]
        · rw [← v2 d hd']
          refine val_congr (hg d hd) fun i hi => ?_
          have hni : i ∉ vars c := fun hic => hones.1 i (mem_varss.2 ⟨d, hd', hi⟩) ((hone.2 i).2 (.inl hic))
          rw [mix_get l1 l2, Int.toNat_of_nonneg (nn d hd i hi), if_neg hni]
    · rw [if_neg h1] at h; cases h

theorem ones_mem : ∀ (l : List Way) (s : List Int), (ones l s).1 = true → ∀ c ∈ l, ∃ s', (one c s').1 = true := by
  intro l
  induction l with
  | nil => intro s _ c hc; cases hc
  | cons d r ih =>
    intro s h c hc
    rw [ones] at h
    by_cases h1 : (one d s).1 = true
    · rw [if_pos h1] at h
      rcases List.mem_cons.1 hc with rfl | hc
      · exact ⟨s, h1⟩
      · exact ih _ h c hc
    · rw [if_neg h1] at h; cases h

/-- WHERE EACH INPUT STANDS ONCE: what is not known can be either. -/
theorem can_any {k : Int} : ∀ {t}, Good k t → Can t := by
  intro t h
  refine Good.rec' (p := Can) ?_ ?_ h
  · intro i n h0 _ s _ x hx b hb hv
    by_cases h2 : x.getD i.toNat 0 = 2
    · -- the input itself is not known
      obtain ⟨y0, l0, f0, b0⟩ := fill x hx
      have hlt : i.toNat < x.length := by
        rcases Nat.lt_or_ge i.toNat x.length with h | h
        · exact h
        · rw [List.getD, List.getElem?_eq_none h] at h2; cases h2
      have hget : ∀ v j, (y0.set i.toNat v).getD j 0 = if j = i.toNat then v else y0.getD j 0 := by
        intro v j
        by_cases hj : j = i.toNat
        · subst hj; simp [List.getD, l0, hlt]
        · rw [if_neg hj]; simp [List.getD, List.getElem?_set_ne (fun e => hj e.symm)]
      obtain ⟨v, hv01, hvb⟩ : ∃ v : Int, (v = 0 ∨ v = 1) ∧ (if n = true ∧ v < 2 then 1 - v else v) = b := by
        cases n
        · exact ⟨b, hb, by simp⟩
        · exact ⟨1 - b, by omega, by rw [if_pos ⟨rfl, by omega⟩]; omega⟩
      refine ⟨y0.set i.toNat v, by simp [l0], fun j => ?_, fun j => ?_, ?_⟩
      · rw [hget]
        by_cases hj : j = i.toNat
        · left; rw [hj, h2]
        · rw [if_neg hj]; exact f0 j
      · rw [hget]
        split
        · exact hv01
        · exact b0 j
      · rw [val_sw, hget, if_pos rfl]; exact hvb
    · obtain ⟨y, l, f, bb⟩ := fill x hx
      refine ⟨y, l, f, bb, ?_⟩
      rw [val_sw] at hv ⊢
      have := (f i.toNat).resolve_left h2
      have hxi := hx i.toNat
      rw [← this]
      rcases hv with hv | hv
      · split at hv <;> omega
      · exact hv
  · intro kd a hk hne hg ih s hs x hx b hb hv
    rw [one, if_neg (by omega)] at hs
    have hc3 : ∀ c ∈ a, val x c = 0 ∨ val x c = 1 ∨ val x c = 2 := fun c hc => val_tri hx (hg c hc)
    -- one child decides, or all children agree
    have strong : ∀ s0 o, s0 ≠ 2 → (s0 = 0 ∨ s0 = 1) → o ≠ s0 → o ≠ 2 → (fold s0 o (a.map (val x)) = 2 ∨ fold s0 o (a.map (val x)) = s0) → ∃ y, y.length = x.length ∧ Fits x y ∧ Bin y ∧ fold s0 o (a.map (val y)) = s0 := by
      intro s0 o _ h01 ho ho2 hf
      have : ∃ c ∈ a, val x c = 2 ∨ val x c = s0 := by
        by_cases h1 : s0 ∈ a.map (val x)
        · obtain ⟨c, hc, e⟩ := List.mem_map.1 h1
          exact ⟨c, hc, .inr e⟩
        · by_cases h2 : 2 ∈ a.map (val x)
          · obtain ⟨c, hc, e⟩ := List.mem_map.1 h2
            exact ⟨c, hc, .inl e⟩
          · simp only [fold, h1, h2, if_false] at hf
            omega
      obtain ⟨c, hc, hcv⟩ := this
      obtain ⟨s', hs'⟩ := ones_mem a s hs c hc
      obtain ⟨y, l, f, bb, vv⟩ := ih c hc s' hs' x hx s0 h01 hcv
      exact ⟨y, l, f, bb, by rw [fold, if_pos (List.mem_map.2 ⟨c, hc, vv⟩)]⟩
    have weak : ∀ s0 o, (s0 = 0 ∨ s0 = 1) → (o = 0 ∨ o = 1) → o ≠ s0 → (fold s0 o (a.map (val x)) = 2 ∨ fold s0 o (a.map (val x)) = o) → ∃ y, y.length = x.length ∧ Fits x y ∧ Bin y ∧ fold s0 o (a.map (val y)) = o := by
      intro s0 o h01 h01' ho hf
      have hno : s0 ∉ a.map (val x) := by
        intro h1
        rw [fold, if_pos h1] at hf
        omega
      have hall : ∀ c ∈ a, val x c = 2 ∨ val x c = o := fun c hc => by
        have h3 := hc3 c hc
        have h4 : val x c ≠ s0 := fun e => hno (List.mem_map.2 ⟨c, hc, e⟩)
        omega
      obtain ⟨y, l, f, bb, vv⟩ := can_all a hg ih s hs x hx o h01' hall
      have e1 : s0 ∉ a.map (val y) := by
        intro h1
        obtain ⟨c, hc, e⟩ := List.mem_map.1 h1
        rw [vv c hc] at e
        exact ho e
      have e2 : (2 : Int) ∉ a.map (val y) := by
        intro h1
        obtain ⟨c, hc, e⟩ := List.mem_map.1 h1
        rw [vv c hc] at e
        omega
      exact ⟨y, l, f, bb, by rw [fold, if_neg e1, if_neg e2]⟩
    rcases hk with rfl | rfl
    · rw [val_series] at hv
      rcases hb with rfl | rfl
      · obtain ⟨y, l, f, bb, vv⟩ := strong 0 1 (by decide) (by decide) (by decide) (by decide) hv
        exact ⟨y, l, f, bb, by rw [val_series]; exact vv⟩
      · obtain ⟨y, l, f, bb, vv⟩ := weak 0 1 (by decide) (by decide) (by decide) hv
        exact ⟨y, l, f, bb, by rw [val_series]; exact vv⟩
    · rw [val_parallel] at hv
      rcases hb with rfl | rfl
      · obtain ⟨y, l, f, bb, vv⟩ := weak 1 0 (by decide) (by decide) (by decide) hv
        exact ⟨y, l, f, bb, by rw [val_parallel]; exact vv⟩
      · obtain ⟨y, l, f, bb, vv⟩ := strong 1 0 (by decide) (by decide) (by decide) (by decide) hv
        exact ⟨y, l, f, bb, by rw [val_parallel]; exact vv⟩

/-! ### rows by their numbers -/
def toNum : List Int → Nat
  | [] => 0
  | v :: l => (if v = 1 then 1 else 0) + 2 * toNum l
theorem toNum_lt : ∀ l : List Int, toNum l < 2 ^ l.length := by
  intro l
  induction l with
  | nil => simp [toNum]
  | cons v l ih => rw [toNum, List.length_cons, Nat.pow_succ]; split <;> omega
theorem toNum_bit : ∀ (l : List Int) (i : Nat), (toNum l).testBit i = decide (l.getD i 0 = 1) := by
  intro l
  induction l with
  | nil => intro i; simp [toNum]
  | cons v l ih =>
    intro i
    rw [toNum]
    cases i with
    | zero =>
      rw [Nat.testBit_zero]
      by_cases hv : v = 1
      · simp [hv]
      · simp [hv]
    | succ i =>
      rw [Nat.testBit_succ, show ((if v = 1 then 1 else 0) + 2 * toNum l) / 2 = toNum l by split <;> omega, ih i]
      simp
theorem rowOf_toNum {y : List Int} (hy : Bin y) : rowOf y.length (toNum y) = y := by
  apply List.ext_getElem (by simp [rowOf])
  intro i h1 h2
  have hb := hy i
  simp only [List.getD, List.getElem?_eq_getElem h2, Option.getD_some] at hb
  simp only [rowOf, List.getElem_map, List.getElem_range, bitI, toNum_bit, List.getD, List.getElem?_eq_getElem h2, Option.getD_some]
  rcases hb with h | h <;> simp [h]
theorem rowOf_bin (k r : Nat) : Bin (rowOf k r) := by
  intro j
  by_cases hj : j < k
  · rw [rowOf_get k r j hj]; unfold bitI; split <;> omega
  · have : (rowOf k r)[j]? = none := List.getElem?_eq_none (by rw [rowOf_length]; omega)
    simp [List.getD, this]
end Way
end Go.Proofs.Ytbjadcanfngijaa
