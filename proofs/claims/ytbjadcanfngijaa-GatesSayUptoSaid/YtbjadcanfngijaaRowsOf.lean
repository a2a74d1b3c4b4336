/- voltaiclaw.rows walked: the bits of r as k inputs, in new memory. -/
import Derived.Test.YtbjadcanfngijaaTable
namespace Go.Proofs.Ytbjadcanfngijaa
open Go.RowKit

theorem row_done {wr : World} {b k j r : Nat} (hj : ¬ j < k) (h : wr.rowIs b 3 k (fun i => .int .i64 (if i < j then Way.bitI r i else 0))) : wr.rowIs b 3 k (fun i => .int .i64 (Way.bitI r i)) :=
  h.congr fun i hi => by rw [if_pos (by omega)]

set_option maxHeartbeats 400000 in
theorem rows_any (k r : Nat) (hk : k ≤ 6) (w : World) :
    Calls Try.prog 17 #[.int .i64 k, .int .i64 r] w fun e w' => e = .returned (.slice (some ⟨w.heap.size, 0, none⟩) k k) ∧ w'.rowIs w.heap.size 3 k (fun i => .int .i64 (Way.bitI r i)) ∧ Below w.heap.size w w' ∧ w.heap.size < w'.heap.size := by
  have hmk := run_make_row' (P := Try.prog) 24 3 (.int .i64 0) 8 Try.underlying24 Try.info3 rfl .i64 .i64 k (by omega) (by omega)
  have hnew := Lib.hid (World.rowIs_made w (.int .i64 0) k 3)
  have hbn := Lib.hid ((Below.refl _ _).alloc (w := w) (Nat.le_refl _) (.cells (madeCells #[.int .i64 0] k) 3))
  go_enter Try.func17, Try.ntmps17
  go_wp2_with fail
  go_loopw [11] (fun i wr => ∃ j : Nat, j ≤ k ∧ i = .int .i64 j ∧ Below w.heap.size w wr ∧ wr.rowIs w.heap.size 3 k (fun i => .int .i64 (if i < j then Way.bitI r i else 0)) ∧ w.heap.size < wr.heap.size) (fun i _ => k - (intOf i).toNat)
  case atStart => exact ⟨0, by omega, rfl, hbn.out, hnew.out.congr (fun i _ => by simp), by simp⟩
  case round =>
    obtain ⟨j, hj, rfl, hbi, hrow, hsi⟩ := hrel
    by_cases hjk : j < k
    · have hjI : (j : Int) < k := by omega
      have hcj := hrow.cell hjk
      have hfj := hrow.frozen j
      have Hrow := Lib.hid hrow
      clear hrow
      have hbit := row_bit r j
      go_wp2_with fail
      go_roundw
      case rel => exact ⟨j + 1, by omega, by go_num, hbi.setCell (by show _ ≤ w.heap.size; omega) _, row_step Hrow.out, by simpa [World.setCell] using hsi⟩
      case measure => simp [intOf]; omega
    · have hd := Lib.hid (row_done hjk hrow)
      clear hrow
      go_wp2_with fail
      go_ret
      exact ⟨rfl, hd.out, hbi, hsi⟩
end Go.Proofs.Ytbjadcanfngijaa
