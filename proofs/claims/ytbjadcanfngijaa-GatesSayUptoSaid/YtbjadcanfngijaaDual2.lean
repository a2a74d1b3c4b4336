/- gates.dual: where the loop starts, what it ends with. -/
import Derived.Test.YtbjadcanfngijaaDual
namespace Go.Proofs.Ytbjadcanfngijaa
open Go.RowKit

theorem dual_start (w : World) (X : Obj) (k2 : Int) :
    DualRel w (((w.alloc X).alloc (.cells #[.int .i64 0, .int .i64 0, .bool false, .slice none 0 0] 29)).alloc (.cells #[.int .i64 k2, .int .i64 0, .bool false, .slice none 0 0] 29)) k2 [] none 0 := by
  have e1 := heap_alloc_new ((w.alloc X).alloc (.cells #[.int .i64 0, .int .i64 0, .bool false, .slice none 0 0] 29)) (.cells #[.int .i64 k2, .int .i64 0, .bool false, .slice none 0 0] 29)
  have e2 := heap_alloc_new (w.alloc X) (.cells #[.int .i64 0, .int .i64 0, .bool false, .slice none 0 0] 29)
  simp only [World.size_alloc] at e1 e2
  refine ⟨(((Below.refl _ _).alloc (Nat.le_refl _) _).alloc (by simp) _).alloc (by simp; omega) _, by simp, ?_, e1, ⟨by simp, .inl ⟨rfl, rfl⟩⟩, by simp⟩
  rw [Below.heap_alloc _ _ _ (by simp)]
  exact e2

theorem flat_cells (ds : List WT) : ∀ (i q : Nat) (h : i < ds.length), q < 4 → (ds.flatMap WT.cells)[i * 4 + q]? = (ds[i].cells)[q]? := by
  induction ds with
  | nil => intro i q h; cases h
  | cons d ds ih =>
    intro i q h hq
    rw [List.flatMap_cons]
    cases i with
    | zero => rw [List.getElem?_append_left (by simp [WT.cells]; omega)]; simp
    | succ i =>
      rw [List.getElem?_append_right (by simp [WT.cells]; omega)]
      have hl : d.cells.length = 4 := rfl
      rw [hl, show (i + 1) * 4 + q - 4 = i * 4 + q by omega, ih i q (by simpa using h) hq]
      simp

/-- what the loop has made, as one tree. -/
theorem dual_lies {w wr : World} {k2 : Int} {ds : List WT} {ad : Option Addr} {ca : Nat} (h : DualRel w wr k2 ds ad ca) :
    WT.Lies wr (fun b => w.heap.size + 3 ≤ b ∧ b < wr.heap.size) ⟨k2, 0, false, ad, ca, ds⟩ := by
  refine .mk _ (fun h0 => ?_) (fun c hc => (h.kids c hc).mono fun b hb => ⟨hb.1, hb.2.1⟩)
  simp only at h0 ⊢
  obtain ⟨g, cap, hv, hg, hlt⟩ := h.own.form h0
  injection hv with e1 e2 e3
  refine ⟨g, 0, e1, ⟨hg, hlt⟩, fun i hi => ?_⟩
  have hcell : ∀ q, q < 4 → ∀ u, ds[i].cells[q]? = some u → wr.cell? ⟨g, 0 + i * 4 + q, none⟩ = some u := by
    intro q hq u hu
    have := h.own.cells (g := g) (by rw [e1]; rfl) (i * 4 + q) u (by rw [flat_cells ds i q hi hq]; exact hu)
    rw [Nat.zero_add]
    have hadd : (⟨g, 0, none⟩ : Addr).add (i * 4 + q) = ⟨g, i * 4 + q, none⟩ := by unfold Addr.add; split <;> simp_all
    rwa [hadd] at this
  exact ⟨hcell 0 (by omega) _ rfl, hcell 1 (by omega) _ rfl, hcell 2 (by omega) _ rfl, hcell 3 (by omega) _ rfl⟩

theorem kids_step {ds args : List WT} {c d : WT} {j : Nat} (h : ds.length = j ∧ ds.map WT.strip = Way.duals ((args.take j).map WT.strip)) (hj : j < args.length) (hc : c = args[j]) (hd : d.strip = c.strip.dual) :
    (ds ++ [d]).length = j + 1 ∧ (ds ++ [d]).map WT.strip = Way.duals ((args.take (j + 1)).map WT.strip) := by
  refine ⟨by simp [h.1], ?_⟩
  rw [List.take_succ_eq_append_getElem hj, List.map_append, List.map_append, h.2, Way.duals_map, Way.duals_map, List.map_append, ← hc]
  simp [hd]
theorem kids_done {ds args : List WT} {j : Nat} (h : ds.length = j ∧ ds.map WT.strip = Way.duals ((args.take j).map WT.strip)) (hj : ¬ j < args.length) : ds.map WT.strip = Way.duals (args.map WT.strip) := by
  rw [h.2, List.take_of_length_le (by omega)]

theorem four {w : World} {b : Nat} {t : TypeId} {a0 a1 a2 a3 : Value} (h : w.heap[b]? = some (.cells #[a0, a1, a2, a3] t (0, 0))) (v0 v1 v2 v3 : Value) :
    ((((w.setCell ⟨b, 0, none⟩ v0).setCell ⟨b, 1, none⟩ v1).setCell ⟨b, 2, none⟩ v2).setCell ⟨b, 3, none⟩ v3).heap[b]? = some (.cells #[v0, v1, v2, v3] t (0, 0)) := by
  simp [World.setCell, Array.getElem?_modify, h]

theorem results_dual {tmps : Array Value} {W : World} {b : Nat} {v0 v1 v2 v3 : Value} (ht : tmps[2]?.getD undef = .pointer (some ⟨b, 0, none⟩)) (h : W.heap[b]? = some (.cells #[v0, v1, v2, v3] 29 (0, 0))) :
    (results Try.f21 tmps).run Try.prog W = .ok (.agg #[v0, v1, v2, v3]) W := by
  have c0 : W.cell? ⟨b, 0, none⟩ = some v0 := cell_at h
  have c1 : W.cell? ⟨b, 1, none⟩ = some v1 := cell_at h
  have c2 : W.cell? ⟨b, 2, none⟩ = some v2 := cell_at h
  have c3 : W.cell? ⟨b, 3, none⟩ = some v3 := cell_at h
  simp only [results, Try.results21]
  simp [go_sem, ht, c0, c1, c2, c3]

theorem dual_out {w wr : World} {k2 : Int} {ds : List WT} {ad : Option Addr} {ca : Nat} {c0 : WT} {L : List Way} (hl : WT.Lies wr (fun b => w.heap.size + 3 ≤ b ∧ b < wr.heap.size) ⟨k2, 0, false, ad, ca, ds⟩) (hb : Below w.heap.size w wr)
    (hr : c0.strip.dual = .mk k2 0 false L) (hd : ds.map WT.strip = L) (v0 v1 v2 v3 : Value) :
    DualPost c0 w (.returned (.agg #[.int .i64 k2, .int .i64 0, .bool false, .slice ad ds.length ca]))
      ((((wr.setCell ⟨w.heap.size + 1, 0, none⟩ v0).setCell ⟨w.heap.size + 1, 1, none⟩ v1).setCell ⟨w.heap.size + 1, 2, none⟩ v2).setCell ⟨w.heap.size + 1, 3, none⟩ v3) := by
  refine ⟨⟨k2, 0, false, ad, ca, ds⟩, rfl, by rw [WT.strip_eq, hr, ← hd], (hl.keep fun b o hb => ?_).mono fun b hb => ⟨by omega, by simpa [World.setCell] using hb.2⟩, (((hb.setCell (by simp) _).setCell (by simp) _).setCell (by simp) _).setCell (by simp) _⟩
  have hne : b ≠ w.heap.size + 1 := by omega
  refine World.cell?_of_block (w := wr) (a := ⟨b, o, none⟩) ?_
  rw [Below.heap_setCell _ _ _ _ hne, Below.heap_setCell _ _ _ _ hne, Below.heap_setCell _ _ _ _ hne, Below.heap_setCell _ _ _ _ hne]
end Go.Proofs.Ytbjadcanfngijaa
