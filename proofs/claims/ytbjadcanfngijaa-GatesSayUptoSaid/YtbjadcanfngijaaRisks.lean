/- gates.Risks walked: it answers the risks in new memory, and touches nothing that was there. -/
import Derived.Test.YtbjadcanfngijaaTable
import Derived.Test.YtbjadcanfngijaaPairs
import Derived.Test.YtbjadcanfngijaaPlain6
import Derived.Test.YtbjadcanfngijaaBits2
import Derived.Deep.AppendLies
namespace Go.Proofs.Ytbjadcanfngijaa
open Go.RowKit

theorem Try.info48 : (Try.prog.info? 48).map (fun i => (i.zero, i.size, i.bytes)) = some (some (.agg #[.int .i64 0, .int .i64 0]), 2, 16) := by kernel_rfl

def pairCells (p : Int × Int) : List Value := [.int .i64 p.1, .int .i64 p.2]

/-- what has been collected so far. -/
structure RiskRel (B : Nat) (w1 wr : World) (L : List (Int × Int)) (ad : Option Addr) (n ca : Nat) : Prop where
  below : Below B w1 wr
  len : n = L.length
  own : wr.ownsRow B 48 2 (.slice ad n ca) n (L.flatMap pairCells)

theorem RiskRel.start {B : Nat} (w1 : World) : RiskRel B w1 w1 [] none 0 0 := ⟨Below.refl _ _, rfl, ⟨by simp, .inl ⟨rfl, rfl⟩⟩⟩
theorem RiskRel.to {B : Nat} {w1 wr wn : World} {L : List (Int × Int)} {ad : Option Addr} {n ca : Nat} (h : RiskRel B w1 wr L ad n ca) (hb : Below wr.heap.size wr wn) (hB : B ≤ wr.heap.size) : RiskRel B w1 wn L ad n ca :=
  ⟨h.below.trans (hb.mono hB), h.len, h.own.kept (row := none) ⟨hb.os, hb.tape, hb.output, hb.size, fun k hk _ => hb.block k hk⟩ (by cases hv : (Value.slice ad n ca).ownBlock <;> simp)⟩
theorem RiskRel.setNew {B b : Nat} {w1 wr : World} {L : List (Int × Int)} {ad : Option Addr} {n ca i : Nat} (h : RiskRel B w1 wr L ad n ca) (hB : B ≤ b) (hne : (Value.slice ad n ca).ownBlock ≠ some b) (v : Value) : RiskRel B w1 (wr.setCell ⟨b, i, none⟩ v) L ad n ca :=
  ⟨h.below.setCell hB v, h.len, ownsRow_setCell_other h.own hne v⟩
theorem RiskRel.ne {B b : Nat} {w1 wr : World} {L : List (Int × Int)} {ad : Option Addr} {n ca : Nat} (h : RiskRel B w1 wr L ad n ca) (hb : wr.heap.size ≤ b) : (Value.slice ad n ca).ownBlock ≠ some b := by
  intro e
  have := (h.own.lt b e).2
  omega

theorem flat_pairs (L : List (Int × Int)) : ∀ (i q : Nat) (h : i < L.length), q < 2 → (L.flatMap pairCells)[i * 2 + q]? = (pairCells L[i])[q]? := by
  induction L with
  | nil => intro i q h; cases h
  | cons d L ih =>
    intro i q h hq
    rw [List.flatMap_cons]
    cases i with
    | zero => rw [List.getElem?_append_left (by simp [pairCells]; omega)]; simp
    | succ i =>
      rw [List.getElem?_append_right (by simp [pairCells]; omega)]
      have hl : (pairCells d).length = 2 := rfl
      rw [hl, show (i + 1) * 2 + q - 2 = i * 2 + q by omega, ih i q (by simpa using h) hq]
      simp

theorem RiskRel.pairs {B : Nat} {w1 wr : World} {L : List (Int × Int)} {ad : Option Addr} {n ca : Nat} (h : RiskRel B w1 wr L ad n ca) : PairsAt wr wr.heap.size ad L := by
  intro h0
  obtain ⟨g, cap, hv, hg, hlt⟩ := h.own.form (by rw [h.len]; exact h0)
  injection hv with e1 e2 e3
  refine ⟨g, 0, e1, hlt, fun i hi => ?_⟩
  have hcell : ∀ q, q < 2 → ∀ u, (pairCells L[i])[q]? = some u → wr.cell? ⟨g, 0 + i * 2 + q, none⟩ = some u := by
    intro q hq u hu
    have := h.own.cells (g := g) (by rw [e1]; rfl) (i * 2 + q) u (by rw [flat_pairs L i q hi hq]; exact hu)
    rw [Nat.zero_add]
    have hadd : (⟨g, 0, none⟩ : Addr).add (i * 2 + q) = ⟨g, i * 2 + q, none⟩ := by unfold Addr.add; split <;> simp_all
    rwa [hadd] at this
  exact ⟨hcell 0 (by omega) _ rfl, hcell 1 (by omega) _ rfl⟩

theorem RiskRel.add {B : Nat} {w1 wr w3 : World} {L : List (Int × Int)} {ad : Option Addr} {n ca gg cap : Nat} {p : Int × Int} {Y : Obj} (h : RiskRel B w1 wr L ad n ca) (hB : B ≤ wr.heap.size)
    (hown : w3.ownsRow B 48 2 (.slice (some ⟨gg, 0, none⟩) (n + 1) cap) (n + 1) (L.flatMap pairCells ++ pairCells p)) (hg : (wr.alloc Y).grownBy w3 (Value.slice ad n ca).ownBlock) : RiskRel B w1 w3 (L ++ [p]) (some ⟨gg, 0, none⟩) (n + 1) cap := by
  refine ⟨(h.below.alloc hB Y).grown hg (by simp; omega) (fun k hk => (h.own.lt k hk).1), by simp [h.len], ?_⟩
  rw [List.flatMap_append]
  simpa using hown

theorem risk_no {k a j : Nat} {t : Way} (h : Way.riskB k t a j = false) : Way.riskRow k t a (j + 1) = Way.riskRow k t a j := by
  rw [Way.riskRow_succ]; simp [Way.riskAt, h]
theorem risk_yes {k a j : Nat} {t : Way} (h : Way.riskB k t a j = true) : Way.riskRow k t a (j + 1) = Way.riskRow k t a j ++ [((a : Int), ((a ||| 2 ^ j : Nat) : Int))] := by
  rw [Way.riskRow_succ]; simp [Way.riskAt, h]

/-- the row that is asked: x[i] = 2. -/
theorem ints_set {wr : World} {b k j r : Nat} (hj : ¬ j < k) (h : wr.rowIs b 3 k (fun i => .int .i64 (if i < j then Way.bitI r i else 0))) (_ : j ≤ k) (q : Nat) :
    IntsAt (wr.setCell ⟨b, q, none⟩ (.int .i64 2)) (b + 1) (some ⟨b, 0, none⟩) ((Way.rowOf k r).set q 2) := by
  intro _
  refine ⟨b, 0, rfl, by omega, fun i hi => ?_⟩
  rw [List.length_set, Way.rowOf_length] at hi
  rw [Nat.zero_add, (h.set q (.int .i64 2)).cell hi]
  by_cases hq : i = q
  · subst hq; simp [List.getD, Way.rowOf_length, hi]
  · rw [if_neg hq, if_pos (by omega)]
    have := Way.rowOf_get k r i hi
    simp only [List.getD] at this ⊢
    rw [List.getElem?_set_ne (fun e => hq e.symm), this]

theorem set_bd (k r q : Nat) : ∀ j, 0 ≤ ((Way.rowOf k r).set q 2).getD j 0 ∧ ((Way.rowOf k r).set q 2).getD j 0 ≤ 2 := by
  intro j
  have h := Way.rowOf_bd k r j
  by_cases hj : q = j
  · subst hj
    by_cases hq : q < (Way.rowOf k r).length
    · simp [List.getD, hq]
    · simp [List.getD, hq]
  · simp only [List.getD] at h ⊢
    rw [List.getElem?_set_ne hj]
    exact h

theorem value_set (c : WT) (hs : c.Small) (k r q cx : Nat) (A : Option Addr) (hg : c.strip.Good k) (w : World) (B : Nat) (hB : B ≤ w.heap.size) (hin : c.In w B) (hx : IntsAt w B A ((Way.rowOf k r).set q 2)) :
    Calls Try.prog 20 #[c.agg, .slice A k cx] w fun e w' => e = .returned (.int .i64 (c.strip.val ((Way.rowOf k r).set q 2))) ∧ Below w.heap.size w w' := by
  have hl : ((Way.rowOf k r).set q 2).length = k := by rw [List.length_set, Way.rowOf_length]
  have h := value_any ((Way.rowOf k r).set q 2) A cx (set_bd k r q) c hs (by rw [hl]; exact hg) w B hB hin hx
  rw [hl] at h
  exact h

def RisksPost (k : Nat) (t : Way) (w : World) (e : Ending) (w' : World) : Prop :=
  ∃ (ad : Option Addr) (ca : Nat), e = .returned (.tuple #[.slice ad (Way.risks k t).length ca, .int .i64 0]) ∧ PairsAt w' w'.heap.size ad (Way.risks k t) ∧ Below w.heap.size w w'
end Go.Proofs.Ytbjadcanfngijaa
