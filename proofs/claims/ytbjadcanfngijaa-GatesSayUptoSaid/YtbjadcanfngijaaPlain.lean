/- The plain law: expressions of switches as trees; what check, value, dual, Leads, CheckWay compute on them. No program in sight. -/
namespace Go.Proofs.Ytbjadcanfngijaa

inductive Way where
  | mk (kind inp : Int) (neg : Bool) (args : List Way)

namespace Way
def kind : Way → Int | mk k _ _ _ => k
def inp : Way → Int | mk _ i _ _ => i
def neg : Way → Bool | mk _ _ n _ => n
def args : Way → List Way | mk _ _ _ a => a

theorem ind {p : Way → Prop} (h : ∀ t : Way, (∀ c ∈ t.args, p c) → p t) : ∀ t, p t
  | mk k i n a => h _ (fun c (_hc : c ∈ a) => ind h c)
termination_by t => sizeOf t
decreasing_by
  have := List.sizeOf_lt_of_mem _hc
  simp only [mk.sizeOf_spec]; omega

/-- what is wrong at one node (0: nothing). -/
def badOf (k kd i : Int) (ng : Bool) (m : Nat) : Int :=
  if kd = 1 then (if 0 < m then 6 else if i < 0 ∨ k ≤ i then 4 else 0)
  else if kd = 2 ∨ kd = 3 then (if i ≠ 0 ∨ ng = true ∨ m = 0 then 6 else 0)
  else 3
def bad (k : Int) (t : Way) : Int := badOf k t.kind t.inp t.neg t.args.length

mutual
def pre : Way → List Way
  | mk k i n a => mk k i n a :: pres a
def pres : List Way → List Way
  | [] => []
  | a :: l => pre a ++ pres l
end

theorem pre_eq (t : Way) : t.pre = t :: pres t.args := by cases t; simp [pre, args]
theorem pres_append (a b : List Way) : pres (a ++ b) = pres a ++ pres b := by
  induction a with
  | nil => simp [pres]
  | cons x a ih => simp [pres, ih]

/-- node by node: the first error, and what is left of the purse. -/
def scan (k : Int) : List Way → Int → Int × Int
  | [], n => (0, n)
  | t :: r, n => if bad k t ≠ 0 then (bad k t, n) else if n - 1 < 0 then (2, n - 1) else scan k r (n - 1)

theorem scan_append (k : Int) (a b : List Way) (n : Int) : scan k (a ++ b) n = if (scan k a n).1 = 0 then scan k b (scan k a n).2 else scan k a n := by
  induction a generalizing n with
  | nil => simp [scan]
  | cons t a ih =>
    simp only [List.cons_append, scan]
    by_cases h : bad k t ≠ 0
    · simp [h]
    · by_cases h2 : n - 1 < 0
      · simp [h, h2]
      · simp only [h, h2, if_false, ih]

theorem scan_node (k : Int) (t : Way) (n : Int) : scan k t.pre n = if bad k t ≠ 0 then (bad k t, n) else if n - 1 < 0 then (2, n - 1) else scan k (pres t.args) (n - 1) := by
  rw [pre_eq, scan]
/-- a node and what stands below it. -/
def node (k : Int) (t : Way) (n : Int) : Int × Int := if bad k t ≠ 0 then (bad k t, n) else if n - 1 < 0 then (2, n - 1) else scan k (pres t.args) (n - 1)
theorem node_mk (k kd i : Int) (ng : Bool) (a : List Way) (n : Int) : node k (mk kd i ng a) n = if badOf k kd i ng a.length ≠ 0 then (badOf k kd i ng a.length, n) else if n - 1 < 0 then (2, n - 1) else scan k (pres a) (n - 1) := rfl
theorem node_switch (k i : Int) (ng : Bool) (a : List Way) (n : Int) : node k (mk 1 i ng a) n = if 0 < a.length then (6, n) else if i < 0 ∨ k ≤ i then (4, n) else if n - 1 < 0 then (2, n - 1) else (0, n - 1) := by
  rw [node_mk]
  unfold badOf
  simp only [if_true]
  by_cases hl : 0 < a.length
  · simp [hl]
  · have he : a = [] := List.length_eq_zero_iff.1 (by omega)
    subst he
    by_cases hi : i < 0 ∨ k ≤ i <;> simp [hi, pres, scan]
theorem node_many (k kd i : Int) (ng : Bool) (a : List Way) (n : Int) (hk : kd = 2 ∨ kd = 3) : node k (mk kd i ng a) n = if i ≠ 0 ∨ ng = true ∨ a.length = 0 then (6, n) else if n - 1 < 0 then (2, n - 1) else scan k (pres a) (n - 1) := by
  rw [node_mk]
  unfold badOf
  rw [if_neg (show ¬ kd = 1 by omega), if_pos hk]
  by_cases hb : i ≠ 0 ∨ ng = true ∨ a.length = 0
  · rw [if_pos hb, if_pos hb, if_pos (by decide)]
  · rw [if_neg hb, if_neg hb, if_neg (by decide)]
theorem node_none (k kd i : Int) (ng : Bool) (a : List Way) (n : Int) (h1 : ¬ kd = 1) (h2 : ¬ (kd = 2 ∨ kd = 3)) : node k (mk kd i ng a) n = (3, n) := by
  rw [node_mk]
  unfold badOf
  rw [if_neg h1, if_neg h2, if_pos (by decide)]

theorem scan_kids (k : Int) (c : Way) (r : List Way) (n : Int) : scan k (pres (c :: r)) n = if (scan k c.pre n).1 = 0 then scan k (pres r) (scan k c.pre n).2 else scan k c.pre n := by
  rw [pres, scan_append]
theorem scan_le (k : Int) : ∀ (l : List Way) (n : Int), 0 ≤ n → (scan k l n).1 = 0 → 0 ≤ (scan k l n).2 ∧ (scan k l n).2 = n - l.length := by
  intro l
  induction l with
  | nil => intro n h _; exact ⟨h, by simp [scan]⟩
  | cons t l ih =>
    intro n h he
    rw [scan] at he ⊢
    split at he
    · rename_i hb; exact absurd he hb
    · split at he
      · cases he
      · rename_i hb hn
        rw [if_neg hb, if_neg hn]
        have := ih (n - 1) (by omega) he
        simp only [List.length_cons]
        exact ⟨this.1, by rw [this.2]; omega⟩
/-- the error of a scan that began with a purse of n ≥ 0 leaves at least -1. -/
theorem scan_lo (k : Int) : ∀ (l : List Way) (n : Int), 0 ≤ n → -1 ≤ (scan k l n).2 := by
  intro l
  induction l with
  | nil => intro n h; simp [scan]; omega
  | cons t l ih =>
    intro n h
    rw [scan]
    split
    · show -1 ≤ n; omega
    · split
      · show -1 ≤ n - 1; omega
      · exact ih _ (by omega)

/-- chapter 14's Check. -/
def chk (k : Int) (t : Way) : Int := if k < 0 ∨ 6 < k then 10 else (scan k t.pre 40).1

/-- well-formed, as chapter 14 asks it of the inputs 0 to k - 1. -/
inductive Good (k : Int) : Way → Prop
  | sw (i : Int) (n : Bool) : 0 ≤ i → i < k → Good k (mk 1 i n [])
  | nd (kd : Int) (a : List Way) : kd = 2 ∨ kd = 3 → a ≠ [] → (∀ c ∈ a, Good k c) → Good k (mk kd 0 false a)

theorem scan_bad {k : Int} : ∀ {l : List Way} {n : Int}, (scan k l n).1 = 0 → ∀ t ∈ l, bad k t = 0 := by
  intro l
  induction l with
  | nil => intro n _ t ht; cases ht
  | cons a l ih =>
    intro n h t ht
    rw [scan] at h
    split at h
    · rename_i hb; exact absurd h hb
    · split at h
      · cases h
      · rename_i hb _
        rcases List.mem_cons.1 ht with rfl | ht
        · simpa using hb
        · exact ih h t ht
theorem mem_pres {c : Way} {l : List Way} (hc : c ∈ l) {t : Way} (ht : t ∈ c.pre) : t ∈ pres l := by
  induction l with
  | nil => cases hc
  | cons a l ih =>
    rw [pres, List.mem_append]
    rcases List.mem_cons.1 hc with rfl | hc
    · exact .inl ht
    · exact .inr (ih hc)
theorem good_of {k : Int} : ∀ t : Way, (∀ c ∈ t.pre, bad k c = 0) → Good k t := by
  refine ind ?_
  intro t ih h
  have h0 := h t (by rw [pre_eq]; simp)
  have hk : ∀ c ∈ t.args, Good k c := fun c hc => ih c hc (fun d hd => h d (by rw [pre_eq]; exact List.mem_cons_of_mem _ (mem_pres hc hd)))
  obtain ⟨kd, i, ng, a⟩ := t
  replace h0 : badOf k kd i ng a.length = 0 := h0
  replace hk : ∀ c ∈ a, Good k c := hk
  clear ih h
  unfold badOf at h0
  by_cases h1 : kd = 1
  · subst h1
    simp only [if_true] at h0
    split at h0
    · omega
    · split at h0
      · omega
      · have he : a = [] := List.length_eq_zero_iff.1 (by omega)
        subst he
        exact .sw i ng (by omega) (by omega)
  · rw [if_neg h1] at h0
    by_cases h2 : kd = 2 ∨ kd = 3
    · rw [if_pos h2] at h0
      by_cases h3 : i ≠ 0 ∨ ng = true ∨ a.length = 0
      · rw [if_pos h3] at h0; omega
      · have hi : i = 0 := by omega
        have hn : ng = false := by cases ng <;> simp_all
        subst hi hn
        exact .nd kd a h2 (by rintro rfl; simp at h3) hk
    · rw [if_neg h2] at h0; omega
theorem chk_good {k : Int} {t : Way} (h : chk k t = 0) : 0 ≤ k ∧ k ≤ 6 ∧ Good k t ∧ t.pre.length ≤ 40 := by
  unfold chk at h
  split at h
  · omega
  · refine ⟨by omega, by omega, good_of t (scan_bad h), ?_⟩
    have := scan_le k t.pre 40 (by omega) h
    omega
theorem Good.inv {k : Int} {t : Way} (h : Good k t) : (t.kind = 1 ∧ 0 ≤ t.inp ∧ t.inp < k ∧ t.args = []) ∨ ((t.kind = 2 ∨ t.kind = 3) ∧ t.inp = 0 ∧ t.neg = false ∧ t.args ≠ [] ∧ ∀ c ∈ t.args, Good k c) := by
  cases h with
  | sw i n h0 h1 => exact .inl ⟨rfl, h0, h1, rfl⟩
  | nd kd a hk ha hg => exact .inr ⟨hk, rfl, rfl, ha, hg⟩

mutual
def val (x : List Int) : Way → Int
  | mk kd i n a => if kd = 1 then (if n = true ∧ x.getD i.toNat 0 < 2 then 1 - x.getD i.toNat 0 else x.getD i.toNat 0)
    else vals x (if kd = 3 then 1 else 0) (if kd = 3 then 0 else 1) a
def vals (x : List Int) (strong out : Int) : List Way → Int
  | [] => out
  | a :: l => if val x a = strong then strong else if val x a = 2 then vals x strong 2 l else vals x strong out l
end
/-- an input that is no 0, 1, 2. -/
def odd (v : Int) : Bool := decide (v < 0) || decide (2 < v)
def closed (xs : List Int) (t : Way) : Int × Int :=
  if chk xs.length t ≠ 0 then (0, chk xs.length t) else if xs.any odd = true then (0, 5) else (val xs t, 0)
end Way
end Go.Proofs.Ytbjadcanfngijaa
