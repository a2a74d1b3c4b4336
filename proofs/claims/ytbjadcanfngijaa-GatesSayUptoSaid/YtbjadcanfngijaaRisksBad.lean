/- gates.Risks walked where the expression is not taken: no risks, and why. -/
import Derived.Test.YtbjadcanfngijaaRisksWalk
namespace Go.Proofs.Ytbjadcanfngijaa
open Go.RowKit

set_option maxHeartbeats 400000 in
theorem risks_bad (c : WT) (hs : c.Small) (k : Int) (w : World) (B : Nat) (hB : B ≤ w.heap.size) (hin : Hid (c.In w B)) (h0 : Hid (¬ Way.chk k c.strip = 0)) :
    Calls Try.prog 13 #[c.agg, .int .i64 k] w fun e w' => e = .returned (.tuple #[.slice none 0 0, .int .i64 (Way.chk k c.strip)]) ∧ Below w.heap.size w w' := by
  have hck := Lib.hid (table_bad c hs k)
  obtain ⟨q, hq⟩ : ∃ q, q = Way.chk k c.strip := ⟨_, rfl⟩
  rw [← hq]
  have Hq := Lib.hid hq
  clear hq
  have t : (q != 0) = true := by have := h0.out; rw [← Hq.out] at this; simpa using this
  unfold WT.agg
  go_enter Try.func13, Try.ntmps13
  go_wp2_with fail
  refine (hck.out _ B ?_ ?_ h0).mono ?_
  · simp; omega
  · exact Lib.hid (hin.out.alloc hB _)
  rw [← Hq.out]
  rintro e w1 ⟨rfl, hb1⟩
  have hbw : Below w.heap.size w w1 := ((Below.refl _ _).alloc (Nat.le_refl _) _).trans (hb1.mono (by simp))
  go_wp2_with fail
  go_ret2
  exact ⟨rfl, hbw⟩
end Go.Proofs.Ytbjadcanfngijaa
