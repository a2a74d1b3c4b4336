/- gates.Closed walked: it returns chapter 14's Closed, and touches nothing that was there. -/
import Derived.Test.YtbjadcanfngijaaCheckTop
import Derived.Test.YtbjadcanfngijaaValue
import Derived.Test.YtbjadcanfngijaaMem
import Derived.Test.YtbjadcanfngijaaPlain2
namespace Go.Proofs.Ytbjadcanfngijaa
open Go.RowKit

theorem pair_of {a b x y : Int} {P : Prop} (h : (a, b) = (x, y)) (hP : P) : Ending.returned (.tuple #[.int .i64 x, .int .i64 y]) = .returned (.tuple #[.int .i64 a, .int .i64 b]) ∧ P := by
  obtain ⟨rfl, rfl⟩ := Prod.mk.inj h
  exact ⟨rfl, hP⟩

set_option maxHeartbeats 400000 in
theorem closed_any (c : WT) (hs : c.Small) (xs : List Int) (A : Option Addr) (cx : Nat) (w : World) (B : Nat) (hB : B ≤ w.heap.size) (hin : Hid (c.In w B)) (hx : Hid (IntsAt w B A xs)) (hn : xs.length ≤ 9223372036854775807) :
    Calls Try.prog 8 #[c.agg, .slice A xs.length cx] w fun e w' => e = .returned (.tuple #[.int .i64 (Way.closed xs c.strip).1, .int .i64 (Way.closed xs c.strip).2]) ∧ Below w.heap.size w w' := by
  obtain ⟨⟨r1, r2⟩, hr⟩ : ∃ r, r = Way.closed xs c.strip := ⟨_, rfl⟩
  rw [← hr]
  unfold Way.closed at hr
  have Hr := Lib.hid hr
  clear hr
  have hck := Lib.hid (check_top xs.length c hs)
  unfold WT.agg
  go_enter Try.func8, Try.ntmps8
  go_wp2_with fail
  refine (hck.out _ B ?_ ?_).mono ?_
  · simp; omega
  · exact Lib.hid (hin.out.alloc hB _)
  rintro e w1 ⟨rfl, hb1⟩
  obtain ⟨q, hq⟩ : ∃ q, q = Way.chk xs.length c.strip := ⟨_, rfl⟩
  rw [← hq]
  have Hq := Lib.hid hq
  clear hq
  have hbw : Below w.heap.size w w1 := ((Below.refl _ _).alloc (Nat.le_refl _) _).trans (hb1.mono (by simp))
  have hsz : w.heap.size + 1 ≤ w1.heap.size := by have := hb1.size; simpa using this
  obtain ⟨hc, hf⟩ := old_of hb1
  simp only [World.size_alloc] at hc hf
  by_cases h0 : q = 0
  · subst h0
    have hbx := Lib.hid (hx.out.below (hbw.mono hB))
    go_wp2_with fail
    go_loop [18] (fun s => ∃ j : Nat, j ≤ xs.length ∧ s = .int .i64 j ∧ Hid (xs.any Way.odd = (xs.drop j).any Way.odd)) (fun s => xs.length - (intOf s).toNat)
    case atStart => exact ⟨0, by omega, rfl, rfl⟩
    case round =>
      obtain ⟨j, hj, rfl, hv⟩ := hrel
      by_cases hlt : j < xs.length
      · obtain ⟨b, o, had, hbB, hcell⟩ := hbx.out (by omega)
        have hcj := hcell j hlt
        clear hcell
        obtain ⟨v, hve⟩ : ∃ v, v = xs.getD j 0 := ⟨_, rfl⟩
        rw [← hve] at hcj
        have Hv := Lib.hid hve
        clear hve
        subst had
        have hjI : (j : Int) < (xs.length : Int) := by omega
        by_cases hlo : v < 0
        · go_wp2_with fail
          go_ret2
          exact pair_of (Hr.out.trans (by rw [← Hq.out, if_neg (by simp), if_pos (Way.any_hit hlt (by rw [← Hv.out]; omega))])) hbw
        · by_cases hhi : 2 < v
          · go_wp2_with fail
            go_ret2
            exact pair_of (Hr.out.trans (by rw [← Hq.out, if_neg (by simp), if_pos (Way.any_hit hlt (by rw [← Hv.out]; omega))])) hbw
          · go_wp2_with fail
            go_round
            case rel => exact ⟨j + 1, by omega, by go_num, Way.any_on hv.out hlt (by rw [← Hv.out]; omega)⟩
            case measure => simp [intOf]; omega
      · have he := Way.any_end hv.out hlt
        have hg := Way.chk_good Hq.out.symm
        have hval := Lib.hid (value_any xs A cx (Way.even_all he) c hs hg.2.2.1)
        have Hg := Lib.hid he
        clear hg he
        go_wp2_with fail
        refine (hval.out w1 B (by omega) (hin.out.below_ (hbw.mono hB)) hbx.out).mono ?_
        rintro e w2 ⟨rfl, hb2⟩
        go_wp2_with fail
        go_ret2
        exact pair_of (Hr.out.trans (by rw [← Hq.out, if_neg (by simp), if_neg Hg.out])) (hbw.trans (hb2.mono (by omega)))
  · have t : (q != 0) = true := by simpa using h0
    have h0' := Lib.hid h0
    clear h0
    go_wp2_with fail
    go_ret2
    exact pair_of (Hr.out.trans (by rw [← Hq.out, if_pos h0'.out])) hbw
end Go.Proofs.Ytbjadcanfngijaa
