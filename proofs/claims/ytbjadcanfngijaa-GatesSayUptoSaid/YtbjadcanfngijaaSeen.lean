/- A map[int]bool that the call made, as a list of the ints that are in it. -/
import Derived.Test.YtbjadcanfngijaaMem
import Derived.Maps.Own
import Derived.Maps.Views
namespace Go.Proofs.Ytbjadcanfngijaa
open Go.RowKit

theorem zero4 (w : World) : (zeroValue 4).run Try.prog w = .ok (.bool false) w := by kernel_rfl

/-- block b is a map of at most n entries: an int is in it just if it is on the list. -/
def Seen (w : World) (b n : Nat) (s : List Int) : Prop :=
  ∃ D : DataW Unit, w.ownsMap Try.prog 3 (plainElem Try.prog 4) b n D ∧ Maps.IsMap D ∧ ∀ i : Int, D.atKey (.int .i64 i) (.lit (.bool false)) = .lit (.bool (decide (i ∈ s)))

theorem Seen.made (w : World) : Seen (w.alloc (.map #[] 0)) w.heap.size 0 [] :=
  ⟨.map [], World.ownsMap_made w _ _ _, Maps.isMap_empty, fun i => by simp [DataW.atKey]⟩
theorem Seen.kept {w w' : World} {b n : Nat} {s : List Int} {row : Option Nat} (h : Seen w b n s) (hg : w.grownBy w' row) (hne : some b ≠ row) : Seen w' b n s := by
  obtain ⟨D, h1, h2, h3⟩ := h
  exact ⟨D, h1.kept hg hne, h2, h3⟩
theorem Seen.alloc {w : World} {b n : Nat} {s : List Int} (h : Seen w b n s) (o : Obj) : Seen (w.alloc o) b n s := h.kept (World.grownBy_alloc w o none) (by simp)
theorem Seen.mono {w : World} {b n n' : Nat} {s : List Int} (h : Seen w b n s) (hn : n ≤ n') : Seen w b n' s := by
  obtain ⟨D, h1, h2, h3⟩ := h
  exact ⟨D, h1.mono hn, h2, h3⟩
theorem Seen.lt {w : World} {b n : Nat} {s : List Int} (h : Seen w b n s) : b < w.heap.size := by
  obtain ⟨D, h1, _⟩ := h
  exact h1.lt

theorem bool_inv {v : Value} {z : DataW Unit × List MemPlace} (h : plainElem Try.prog 4 v = some z) : ∃ x, v = .bool x ∧ z = (.lit (.bool x), []) := by
  unfold plainElem at h
  rw [Try.underlying4] at h
  cases v <;> simp at h
  subst h
  exact ⟨_, rfl, rfl⟩

theorem wf64 {i : Int} (h0 : -9223372036854775808 ≤ i) (h1 : i ≤ 9223372036854775807) : (Lit.int .i64 i).wf = true := WalkArith.wf_i64 ⟨h0, h1⟩

theorem Seen.look {w : World} {b n : Nat} {s : List Int} (h : Seen w b n s) {i : Int} (hw : (Lit.int .i64 i).wf = true) :
    (Instr.lookup 38 (.map (some b)) (.int .i64 i) false).run Try.prog w = .ok (.bool (decide (i ∈ s))) w := by
  obtain ⟨D, h1, _, h3⟩ := h
  obtain ⟨v, ps, hrun, hv⟩ := h1.lookup (Maps.int_keyed Try.underlying3) Try.underlying38 (zero4 w) (plainElem_bool Try.underlying4 false) (Maps.keyOf_int_mk Try.underlying3 hw)
  obtain ⟨x, rfl, hz⟩ := bool_inv hv
  rw [h3 i] at hz
  simp only [Prod.mk.injEq, DataW.lit.injEq, Lit.bool.injEq] at hz
  rw [hrun, hz.1]

theorem Seen.put {w : World} {b n : Nat} {s : List Int} (h : Seen w b n s) {i : Int} (hw : (Lit.int .i64 i).wf = true) (hn : n < maxLen) :
    ∃ w', (Instr.mapUpdate 38 (.map (some b)) (.int .i64 i) (.bool true)).run Try.prog w = .ok () w' ∧ Seen w' b (n + 1) (i :: s) ∧ w.grownBy w' (some b) := by
  obtain ⟨D, h1, h2, h3⟩ := h
  obtain ⟨w', hrun, hown, hg⟩ := h1.update (Maps.int_keyed Try.underlying3) Try.underlying38 hn (Maps.keyOf_int_mk Try.underlying3 hw) (plainElem_bool Try.underlying4 true)
  refine ⟨w', hrun, ⟨_, hown, h2.put _ _, fun j => ?_⟩, hg⟩
  by_cases hj : j = i
  · subst hj
    rw [Maps.atKey_put_same h2 (by simp [WideAt.IsKeyLit])]
    simp
  · rw [Maps.atKey_put_other (by simpa using hj), h3 j]
    simp [hj]
end Go.Proofs.Ytbjadcanfngijaa
