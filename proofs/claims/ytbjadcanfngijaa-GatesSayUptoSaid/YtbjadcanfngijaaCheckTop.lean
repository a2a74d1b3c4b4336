/- gates.Check walked: it returns chapter 14's Check, and touches nothing that was there. -/
import Derived.Test.YtbjadcanfngijaaCheck
namespace Go.Proofs.Ytbjadcanfngijaa
open Go.RowKit

set_option maxHeartbeats 400000 in
theorem check_top (k : Int) (c : WT) (hs : c.Small) (w : World) (B : Nat) (hB : B ≤ w.heap.size) (hin : Hid (c.In w B)) :
    Calls Try.prog 14 #[c.agg, .int .i64 k] w fun e w' => e = .returned (.int .i64 (Way.chk k c.strip)) ∧ Below w.heap.size w w' := by
  obtain ⟨r, hr⟩ : ∃ r, r = Way.chk k c.strip := ⟨_, rfl⟩
  rw [← hr]
  unfold Way.chk at hr
  have hck := Lib.hid (check_any k c hs)
  by_cases h0 : k < 0
  · rw [if_pos (.inl h0)] at hr
    subst hr
    unfold WT.agg
    go_enter Try.func14, Try.ntmps14
    go_wp2_with fail
    go_ret
    exact ⟨rfl, (Below.refl _ _).alloc (Nat.le_refl _) _⟩
  · by_cases h6 : 6 < k
    · rw [if_pos (.inr h6)] at hr
      subst hr
      unfold WT.agg
      go_enter Try.func14, Try.ntmps14
      go_wp2_with fail
      go_ret
      exact ⟨rfl, (Below.refl _ _).alloc (Nat.le_refl _) _⟩
    · rw [if_neg (by omega)] at hr
      have Hr := Lib.hid hr
      clear hr
      unfold WT.agg
      go_enter Try.func14, Try.ntmps14
      go_wp2_with fail
      refine (hck.out _ B (w.heap.size + 1) 40 (by omega) ?_ (by omega) (by omega) ?_).mono ?_
      · exact (hin.out.alloc hB _).alloc (by simp; omega) _
      · rw [← World.size_alloc w]
        exact heap_alloc_new _ _
      rintro e w1 ⟨rfl, hP⟩
      rw [← Hr.out]
      go_wp2_with fail
      go_ret
      exact ⟨rfl, (((Below.refl _ _).alloc (Nat.le_refl _) _).alloc (by simp) _).grown hP.rest (by simp; omega) (by intro i hi; injection hi; omega)⟩
end Go.Proofs.Ytbjadcanfngijaa
