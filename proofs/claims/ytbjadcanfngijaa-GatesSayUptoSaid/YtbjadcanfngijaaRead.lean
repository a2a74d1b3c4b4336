/- An expression that came in, read as a tree with the addresses of its lists; a slice of ints that came in, read as a list. -/
import Derived.Test.YtbjadcanfngijaaTree
import Derived.ProofKit
import Derived.Deep.Slices
import Derived.Deep.Fields
import Derived.Lib.SmallJoins
namespace Go.Proofs.Ytbjadcanfngijaa
open Go.ChangeShapes Go.WideShapes Go.ChangeAt Go.RowKit Go.Joins Go.Deep

theorem Try.cells29 : Try.prog.cellsOf 29 = 4 := by kernel_rfl
theorem Try.cells4 : Try.prog.cellsOf 4 = 1 := by kernel_rfl
theorem Try.cells27 : Try.prog.cellsOf 27 = 1 := by kernel_rfl
theorem Try.cells3 : Try.prog.cellsOf 3 = 1 := by kernel_rfl

instance : Inhabited WT := ⟨⟨0, 0, false, none, 0, []⟩⟩

section
variable {H : Type} {enc : TypeId × Value → H} {W : World}

theorem way_read : ∀ (fuel : Nat) (cs : List Value) (x : DataW H × List MemPlace), DataW.trod enc Try.prog W 0 (fun _ => true) true fuel 29 cs = some x →
    ∃ t : WT, cs = [.int .i64 t.kind, .int .i64 t.inp, .bool t.neg, .slice t.adr t.args.length t.cap] ∧ t.In W W.heap.size ∧ t.Small := by
  intro fuel
  induction fuel using Nat.strongRecOn with
  | _ fuel ih =>
    intro cs x h
    obtain ⟨ys, n, hn, _, hlen, hyl, hf⟩ := DataW.trod_struct Try.underlying29 h
    rw [Try.cells29] at hlen
    obtain ⟨c0, c1, c2, c3, rfl⟩ : ∃ c0 c1 c2 c3, cs = [c0, c1, c2, c3] := by
      match cs, hlen with
      | [c0, c1, c2, c3], _ => exact ⟨c0, c1, c2, c3, rfl⟩
    obtain ⟨y0, y1, y2, y3, rfl⟩ : ∃ y0 y1 y2 y3, ys = [y0, y1, y2, y3] := by
      match ys, hyl with
      | [y0, y1, y2, y3], _ => exact ⟨y0, y1, y2, y3, rfl⟩
    have h0 : DataW.trod enc Try.prog W 0 (fun _ => true) true n 3 (List.take (Try.prog.cellsOf 3) (List.drop 0 [c0, c1, c2, c3])) = some y0 := hf 0 _ rfl
    have h1 : DataW.trod enc Try.prog W 0 (fun _ => true) true n 3 (List.take (Try.prog.cellsOf 3) (List.drop 1 [c0, c1, c2, c3])) = some y1 := hf 1 _ rfl
    have h2 : DataW.trod enc Try.prog W 0 (fun _ => true) true n 4 (List.take (Try.prog.cellsOf 4) (List.drop 2 [c0, c1, c2, c3])) = some y2 := hf 2 _ rfl
    have h3 : DataW.trod enc Try.prog W 0 (fun _ => true) true n 27 (List.take (Try.prog.cellsOf 27) (List.drop 3 [c0, c1, c2, c3])) = some y3 := hf 3 _ rfl
    rw [Try.cells3] at h0 h1
    rw [Try.cells4] at h2
    rw [Try.cells27] at h3
    simp at h0 h1 h2 h3
    obtain ⟨k, e0, _, _⟩ := DataW.trod_int Try.underlying3 h0
    obtain ⟨i, e1, _, _⟩ := DataW.trod_int Try.underlying3 h1
    obtain ⟨g, e2, _⟩ := DataW.trod_bool Try.underlying4 h2
    simp only [List.cons.injEq, and_true] at e0 e1 e2
    subst e0 e1 e2
    rcases DataW.trod_slice Try.underlying27 h3 with ⟨e3, _⟩ | ⟨a, len, cap, elems, rest, m, hm, e3, _, _, hl, hcap, hel, hat, _, _⟩
    · simp only [List.cons.injEq, and_true] at e3
      subst e3
      exact ⟨⟨k, i, g, none, 0, []⟩, rfl, .mk _ (fun h => by simp at h) (fun c hc => by cases hc), .mk _ (by simp) (fun c hc => by cases hc)⟩
    · simp only [List.cons.injEq, and_true] at e3
      subst e3
      have each : ∀ q, q < len → ∃ t : WT, (∃ b o, a = ⟨b, o, none⟩ ∧ b < W.heap.size ∧ W.cell? ⟨b, o + q * 4, none⟩ = some (.int .i64 t.kind) ∧ W.cell? ⟨b, o + q * 4 + 1, none⟩ = some (.int .i64 t.inp) ∧
          W.cell? ⟨b, o + q * 4 + 2, none⟩ = some (.bool t.neg) ∧ W.cell? ⟨b, o + q * 4 + 3, none⟩ = some (.slice t.adr t.args.length t.cap)) ∧ t.In W W.heap.size ∧ t.Small := by
        intro q hq
        have hb := hat q hq
        have hsome : elems[q]? = some (elems[q]'(by omega)) := List.getElem?_eq_getElem (by omega)
        rw [hsome] at hb
        obtain ⟨cs', hc1, hc2⟩ := Option.bind_eq_some_iff.1 hb
        obtain ⟨t, rfl, hin, hsm⟩ := ih m (by omega) _ _ hc2
        rw [Try.cells29] at hc1
        obtain ⟨_, _, hcell⟩ := World.cells?_some hc1
        have g0 := hcell 0 (by omega)
        have g1 := hcell 1 (by omega)
        have g2 := hcell 2 (by omega)
        have g3 := hcell 3 (by omega)
        simp only [add_add] at g0 g1 g2 g3
        obtain ⟨b, o, spot⟩ := a
        have hspot : spot = none := by
          have := hat 0 (by omega)
          have hsome0 : elems[0]? = some (elems[0]'(by omega)) := List.getElem?_eq_getElem (by omega)
          rw [hsome0] at this
          obtain ⟨cs0, hd1, _⟩ := Option.bind_eq_some_iff.1 this
          rw [Try.cells29] at hd1
          obtain ⟨_, hl0, hcell0⟩ := World.cells?_some hd1
          have := hcell0 0 (by omega)
          rw [List.getElem?_eq_getElem (by omega)] at this
          simpa [Addr.add] using World.cell?_spot this
        subst hspot
        have hadd : ∀ m, (⟨b, o, none⟩ : Addr).add m = ⟨b, o + m, none⟩ := fun m => by unfold Addr.add; split <;> simp_all
        simp only [hadd] at g0 g1 g2 g3
        refine ⟨t, ⟨b, o, rfl, World.block_lt_of_cell? W _ g0, g0, ?_, ?_, ?_⟩, hin, hsm⟩
        · rw [← Nat.add_assoc] at g1; exact g1
        · rw [← Nat.add_assoc] at g2; exact g2
        · rw [← Nat.add_assoc] at g3; exact g3
      obtain ⟨f, hf⟩ := choose_lt each
      refine ⟨⟨k, i, g, some a, cap, (List.range len).map f⟩, by simp, .mk _ (fun h => ?_) (fun c hc => ?_), .mk _ ?_ (fun c hc => ?_)⟩
      · simp only [List.length_map, List.length_range] at h
        obtain ⟨⟨b, o, rfl, hb, _⟩, _⟩ := hf 0 h
        refine ⟨b, o, rfl, hb, fun q hq => ?_⟩
        simp only [List.length_map, List.length_range] at hq
        obtain ⟨⟨b', o', e, _, g0, g1, g2, g3⟩, _⟩ := hf q hq
        injection e with e1 e2
        subst e1 e2
        simp only [List.getElem_map, List.getElem_range]
        exact ⟨g0, g1, g2, g3⟩
      · obtain ⟨q, hq, rfl⟩ := List.mem_map.1 hc
        exact (hf q (List.mem_range.1 hq)).2.1
      · simp only [List.length_map, List.length_range]
        unfold maxLen at hcap
        omega
      · obtain ⟨q, hq, rfl⟩ := List.mem_map.1 hc
        exact (hf q (List.mem_range.1 hq)).2.2

/-- a slice of ints that came in. -/
theorem ints_read {fuel : Nat} {v : Value} {x : DataW H × List MemPlace} (h : DataW.trod enc Try.prog W 0 (fun _ => true) true fuel 24 [v] = some x) :
    ∃ (xs : List Int) (A : Option Addr) (cap : Nat), v = .slice A xs.length cap ∧ IntsAt W W.heap.size A xs ∧ xs.length ≤ 9223372036854775807 := by
  rcases open_ints Try.underlying24 Try.underlying3 Try.cells3 h with ⟨hcs, _⟩ | ⟨a, len, cap, zs, hcs, _, hl, hm, hz, _, hcell, _⟩
  · simp only [List.cons.injEq, and_true] at hcs
    exact ⟨[], none, 0, hcs, IntsAt.nil _ _ _, by simp⟩
  · simp only [List.cons.injEq, and_true] at hcs
    simp only [if_true] at hz
    unfold maxLen at hm
    have hlen : (zs.take len).length = len := by simp; omega
    refine ⟨zs.take len, some a, cap, by rw [hlen]; exact hcs, fun h0 => ?_, by omega⟩
    rw [hlen] at h0
    have g0 := hcell 0 (by omega)
    obtain ⟨b, o, spot⟩ := a
    have hspot : spot = none := by simpa [Addr.add] using World.cell?_spot g0
    subst hspot
    have hadd : ∀ m, (⟨b, o, none⟩ : Addr).add m = ⟨b, o + m, none⟩ := fun m => by unfold Addr.add; split <;> simp_all
    simp only [hadd] at g0
    refine ⟨b, o, rfl, World.block_lt_of_cell? W _ g0, fun k hk => ?_⟩
    rw [hlen] at hk
    have := hcell k (by omega)
    rw [hadd] at this
    rw [this]
    simp [List.getD, hk]
end
end Go.Proofs.Ytbjadcanfngijaa
