/- A slice of expressions that reads as a list: what is cut off it, what is appended to a row of the call's own. -/
import Derived.Test.YtbjadcanfngijaaDual2
import Derived.Maps.AppendAt
import Derived.Deep.RegionLaw
namespace Go.Proofs.Ytbjadcanfngijaa
open Go.RowKit

theorem flat_len (l : List WT) : (l.flatMap WT.cells).length = l.length * 4 := by
  induction l with
  | nil => rfl
  | cons a l ih => rw [List.flatMap_cons, List.length_append, ih]; simp [WT.cells]; omega

theorem flat_one (l : List WT) : ∀ u ∈ l.flatMap WT.cells, u.oneCell' = true := by
  intro u hu
  obtain ⟨t, _, ht⟩ := List.mem_flatMap.1 hu
  simp [WT.cells] at ht
  rcases ht with rfl | rfl | rfl | rfl <;> rfl

theorem four_of {p : Nat → Prop} (h0 : p 0) (h1 : p 1) (h2 : p 2) (h3 : p 3) (q : Nat) (hq : q < 4) : p q := by
  match q, hq with
  | 0, _ => exact h0
  | 1, _ => exact h1
  | 2, _ => exact h2
  | 3, _ => exact h3

theorem WT.In.flat {w : World} {B : Nat} {t : WT} (h : t.In w B) (h0 : 0 < t.args.length) : ∃ b o, t.adr = some ⟨b, o, none⟩ ∧ b < B ∧ ∀ j u, (t.args.flatMap WT.cells)[j]? = some u → w.cell? ⟨b, o + j, none⟩ = some u := by
  cases h with | mk _ here _ =>
  obtain ⟨b, o, e, hb, hc⟩ := here h0
  refine ⟨b, o, e, hb, fun j u hu => ?_⟩
  have hl := flat_len t.args
  have hj : j < t.args.length * 4 := by rw [← hl]; exact (List.getElem?_eq_some_iff.1 hu).1
  have hi : j / 4 < t.args.length := by omega
  obtain ⟨q0, q1, q2, q3⟩ := hc (j / 4) hi
  have hm : j % 4 < 4 := Nat.mod_lt _ (by omega)
  have e4 : j = j / 4 * 4 + j % 4 := by omega
  rw [e4, flat_cells _ _ _ hi hm] at hu
  rw [e4]
  obtain ⟨q, hq⟩ : ∃ q, q = j % 4 := ⟨_, rfl⟩
  rw [← hq] at hu hm ⊢
  rw [← Nat.add_assoc]
  revert u
  refine four_of (p := fun q => ∀ u, (t.args[j / 4].cells)[q]? = some u → w.cell? ⟨b, o + j / 4 * 4 + q, none⟩ = some u) ?_ ?_ ?_ ?_ q hm
  all_goals
    intro u hu
    simp only [WT.cells, List.getElem?_cons_zero, List.getElem?_cons_succ, Option.some.injEq] at hu
    subst hu
    assumption

/-- what is behind the first. -/
theorem todo_rest {w : World} {B : Nat} {A : Option Addr} {ca c' : Nat} {x : WT} {r : List WT} (h : WT.In w B ⟨0, 0, false, A, ca, x :: r⟩) (hc : (x :: r).length ≤ ca) :
    WT.In w B ⟨0, 0, false, if ca = 1 then A else A.map (·.add (1 * 4)), c', r⟩ := by
  cases h with | mk _ here below =>
  refine .mk _ (fun h0 => ?_) (fun c hcm => below c (List.mem_cons_of_mem _ hcm))
  simp only at h0 ⊢
  simp only [List.length_cons] at hc
  obtain ⟨b, o, e, hb, hcell⟩ := here (by simp)
  simp only at e hcell
  subst e
  refine ⟨b, o + 4, ?_, hb, fun i hi => ?_⟩
  · rw [if_neg (by omega)]
    simp [Addr.add]
  · have := hcell (i + 1) (by simpa using hi)
    simp only [List.getElem_cons_succ] at this
    have e1 : o + (i + 1) * 4 = o + 4 + i * 4 := by omega
    rw [e1] at this
    exact this

/-- a row of the call's own that holds the cells of a list: the list lies there. -/
theorem todo_own {w : World} {base B : Nat} {A : Option Addr} {ca c' : Nat} {l : List WT} (hown : w.ownsRow base 29 4 (.slice A l.length ca) l.length (l.flatMap WT.cells)) (hB : w.heap.size ≤ B) (hk : ∀ c ∈ l, WT.In w B c) :
    WT.In w B ⟨0, 0, false, A, c', l⟩ := by
  refine .mk _ (fun h0 => ?_) hk
  simp only at h0 ⊢
  obtain ⟨g, cap, hv, hg, hlt⟩ := hown.form h0
  injection hv with e1 e2 e3
  refine ⟨g, 0, e1, by omega, fun i hi => ?_⟩
  have hcell : ∀ q, q < 4 → ∀ u, l[i].cells[q]? = some u → w.cell? ⟨g, 0 + i * 4 + q, none⟩ = some u := by
    intro q hq u hu
    have := hown.cells (g := g) (by rw [e1]; rfl) (i * 4 + q) u (by rw [flat_cells l i q hi hq]; exact hu)
    rw [Nat.zero_add]
    have hadd : (⟨g, 0, none⟩ : Addr).add (i * 4 + q) = ⟨g, i * 4 + q, none⟩ := by unfold Addr.add; split <;> simp_all
    rwa [hadd] at this
  exact ⟨hcell 0 (by omega) _ rfl, hcell 1 (by omega) _ rfl, hcell 2 (by omega) _ rfl, hcell 3 (by omega) _ rfl⟩

theorem own_slice {w : World} {base : Nat} {v : Value} {n : Nat} {xs : List Value} (h : w.ownsRow base 29 4 v n xs) : ∃ A ca, v = .slice A n ca ∧ n ≤ ca := by
  rcases h.2 with ⟨rfl, rfl⟩ | ⟨g, cap, cur, rfl, _, _, hc, _⟩
  · exact ⟨_, _, rfl, Nat.le_refl _⟩
  · exact ⟨_, _, rfl, hc⟩

theorem append_ways (w : World) (ty : TypeId) (base : Nat) (v : Value) (l1 l2 : List WT) (hown : w.ownsRow base 29 4 v l1.length (l1.flatMap WT.cells)) (B : Nat) (A : Option Addr) (c : Nat) (hr : WT.In w B ⟨0, 0, false, A, c, l2⟩)
    (hn : l1.length + l2.length ≤ 4194304) (hbase : base ≤ w.heap.size) :
    ∃ A' c' w', (Builtin.append_ #[27, 27] ty #[v, .slice A l2.length c]).run Try.prog w = .ok (.slice A' (l1 ++ l2).length c') w' ∧ (l1 ++ l2).length ≤ c' ∧
      w'.ownsRow base 29 4 (.slice A' (l1 ++ l2).length c') (l1 ++ l2).length ((l1 ++ l2).flatMap WT.cells) ∧ w.grownBy w' v.ownBlock := by
  obtain ⟨i, hi, hz, hz1, hz2⟩ := info_parts Try.info29
  rcases A with _ | ad
  · have hm : l2 = [] := by
      cases l2 with
      | nil => rfl
      | cons a l =>
        obtain ⟨b, o, e, _⟩ := hr.flat (by simp)
        cases e
    subst hm
    obtain ⟨A', c', rfl, hc'⟩ := own_slice hown
    simp only [List.append_nil, List.length_nil]
    refine ⟨A', c', w, ?_, hc', hown, World.grownBy.refl w _⟩
    rcases hown.2 with ⟨e, e2⟩ | ⟨g, cap, cur, e, _, _, hnc, _⟩
    · injection e with e1 e3 e4
      subst e1 e4
      rw [e3]
      simp [Builtin.append_, run_underlying Try.underlying27, sizeOf, typeInfo, hi, Builtin.lenOf, Builtin.firstCells]
    · injection e with e1 e3 e4
      subst e1
      simp [Builtin.append_, run_underlying Try.underlying27, sizeOf, typeInfo, hi, Builtin.lenOf, Builtin.firstCells, hc', storeCells]
  · have hcells : ∀ j u, (l2.flatMap WT.cells)[j]? = some u → w.cell? (ad.add j) = some u := by
      intro j u hu
      rcases Nat.eq_zero_or_pos l2.length with h0 | h0
      · have hn : l2 = [] := List.eq_nil_of_length_eq_zero h0
        subst hn
        simp at hu
      · obtain ⟨b, o, e, _, hc⟩ := hr.flat h0
        simp only [Option.some.injEq] at e
        subst e
        have hadd : (⟨b, o, none⟩ : Addr).add j = ⟨b, o + j, none⟩ := by unfold Addr.add; split <;> simp_all
        rw [hadd]
        exact hc j u hu
    obtain ⟨v', w', hrun, h2, h3, _, _⟩ := run_append_own_at (P := Try.prog) w base 27 ty 29 i _ 4 48 Try.underlying27 hi hz hz1 hz2 rfl (by omega) v l1.length (l1.flatMap WT.cells) hown ad l2.length c (l2.flatMap WT.cells) (flat_len l2) hcells (flat_one l2) (by unfold maxLen; omega) (by omega) hbase
    obtain ⟨A', c', rfl, hc'⟩ := own_slice h2
    rw [← List.flatMap_append, ← List.length_append] at h2
    rw [← List.length_append] at hrun hc'
    exact ⟨A', c', w', hrun, hc', h2, h3⟩

theorem step_append_ways {ops : Array Oper} {o : Oper} {a : Act} {K : Act → World → Prop} {Q : Exit → Act → World → Prop} {E : Prop} (w : World) (hgd : o.guard = none) (s x : Operand)
    (ho : o.op = .call { callee := .builtin .append, args := #[s, x], argTypes := #[27, 27] })
    (base : Nat) (v : Value) (l1 l2 l : List WT) (hl : l = l1 ++ l2) (hs : a.eval s = v) (hown : w.ownsRow base 29 4 v l1.length (l1.flatMap WT.cells))
    (B : Nat) (A : Option Addr) (c : Nat) (hx : a.eval x = .slice A l2.length c) (hr : WT.In w B ⟨0, 0, false, A, c, l2⟩)
    (hn : l1.length + l2.length ≤ 4194304) (hbase : base ≤ w.heap.size)
    (h : ∀ A' c' w', l.length ≤ c' → w'.ownsRow base 29 4 (.slice A' l.length c') l.length (l.flatMap WT.cells) → w.grownBy w' v.ownBlock → K (a.put o.dst (.slice A' l.length c')) w') :
    if Region.wanted o (yielded ops a.tmps) = true then Oper.wp Try.prog o a w K Q else E := by
  subst hl
  have hw : Region.wanted o (yielded ops a.tmps) = true := by simp [Region.wanted, hgd]
  rw [if_pos hw]
  obtain ⟨A', c', w', hrun, h1, h2, h3⟩ := append_ways w o.type base v l1 l2 hown B A c hr hn hbase
  unfold Oper.wp execOp
  simp only [ho, resolve, invoke, builtin, Sem.run_bind, Sem.run_pure, Result.andThen_ok, List.map_toArray, List.map_cons, List.map_nil, hs, hx, hrun]
  exact h A' c' w' h1 h2 h3
end Go.Proofs.Ytbjadcanfngijaa
