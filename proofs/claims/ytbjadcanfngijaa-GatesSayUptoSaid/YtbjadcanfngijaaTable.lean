/- gates.Table walked. -/
import Derived.Test.YtbjadcanfngijaaClosed
import Derived.Test.YtbjadcanfngijaaPlain3
import Derived.Test.YtbjadcanfngijaaBits
import Derived.Deep.OwnRows
namespace Go.Proofs.Ytbjadcanfngijaa
open Go.RowKit
theorem Try.info3 : (Try.prog.info? 3).map (fun i => (i.zero, i.size, i.bytes)) = some (some (.int .i64 0), 1, 8) := by kernel_rfl

theorem row_step {wr : World} {b k j r : Nat} (h : wr.rowIs b 3 k (fun i => .int .i64 (if i < j then Way.bitI r i else 0))) :
    (wr.setCell ⟨b, j, none⟩ (.int .i64 (Way.bitI r j))).rowIs b 3 k (fun i => .int .i64 (if i < j + 1 then Way.bitI r i else 0)) := by
  refine (h.set j _).congr fun i _ => ?_
  by_cases e : i = j
  · subst e; simp
  · rw [if_neg e]
    by_cases hlt : i < j
    · rw [if_pos hlt, if_pos (by omega)]
    · rw [if_neg hlt, if_neg (by omega)]
theorem row_full {wr : World} {b k j r : Nat} (hj : ¬ j < k) (h : wr.rowIs b 3 k (fun i => .int .i64 (if i < j then Way.bitI r i else 0))) (_ : j ≤ k) :
    IntsAt wr (b + 1) (some ⟨b, 0, none⟩) (Way.rowOf k r) := by
  intro _
  refine ⟨b, 0, rfl, by omega, fun i hi => ?_⟩
  rw [Way.rowOf_length] at hi
  rw [Nat.zero_add, h.cell hi, Way.rowOf_get k r i hi, if_pos (by omega)]

theorem ret_tab {a b : Nat} (h : a = b) : Ending.returned (.tuple #[.int .u64 (a : Int), .int .i64 0]) = .returned (.tuple #[.int .u64 (b : Int), .int .i64 0]) := by rw [h]
theorem tab_same {c : WT} {k r : Nat} {v : Int} (h : v = c.strip.val (Way.rowOf k r)) (hv : ¬ v = 1) : Way.tabTo k c.strip (r + 1) = Way.tabTo k c.strip r := by
  rw [Way.tabTo, if_neg (by rw [← h]; exact hv)]
theorem tab_or {c : WT} {k r : Nat} {v : Int} (h : v = c.strip.val (Way.rowOf k r)) (hv : v = 1) : Way.tabTo k c.strip (r + 1) = Way.tabTo k c.strip r ||| 2 ^ r := by
  rw [Way.tabTo, if_pos (by rw [← h]; exact hv)]
theorem value_row (c : WT) (hs : c.Small) (k r cx : Nat) (A : Option Addr) (hg : c.strip.Good k) (w : World) (B : Nat) (hB : B ≤ w.heap.size) (hin : c.In w B) (hx : IntsAt w B A (Way.rowOf k r)) :
    Calls Try.prog 20 #[c.agg, .slice A k cx] w fun e w' => e = .returned (.int .i64 (c.strip.val (Way.rowOf k r))) ∧ Below w.heap.size w w' := by
  have h := value_any (Way.rowOf k r) A cx (Way.rowOf_bd k r) c hs (by rw [Way.rowOf_length]; exact hg) w B hB hin hx
  rw [Way.rowOf_length] at h
  exact h

set_option maxHeartbeats 400000 in
theorem table_good (c : WT) (hs : c.Small) (k : Nat) (hk : k ≤ 6) (w : World) (B : Nat) (hB : B ≤ w.heap.size) (hin : Hid (c.In w B)) (h0 : Hid (Way.chk k c.strip = 0)) (N : Nat) (hN : Hid (N = 2 ^ k)) (hNb : N ≤ 64) (hsh : wrap64 ((2 : Int) ^ k) = N) :
    Calls Try.prog 9 #[c.agg, .int .i64 k] w fun e w' => e = .returned (.tuple #[.int .u64 (Way.tab k c.strip), .int .i64 0]) ∧ Below w.heap.size w w' := by
  have hck := Lib.hid (check_top k c hs)
  unfold WT.agg
  go_enter Try.func9, Try.ntmps9
  go_wp2_with fail
  refine (hck.out _ B ?_ ?_).mono ?_
  · simp; omega
  · exact Lib.hid (hin.out.alloc hB _)
  rw [h0.out]
  rintro e w1 ⟨rfl, hb1⟩
  have hbw : Below w.heap.size w w1 := ((Below.refl _ _).alloc (Nat.le_refl _) _).trans (hb1.mono (by simp))
  have hsz : w.heap.size + 1 ≤ w1.heap.size := by have := hb1.size; simpa using this
  obtain ⟨hc, hf⟩ := old_of hb1
  simp only [World.size_alloc] at hc hf
  have hcell := fun i (wr : World) (hb : Below (w.heap.size + 1) w1 wr) => ((old_of hb).1 w.heap.size i (by omega)).trans (hc w.heap.size i (by omega))
  have Hcell := Lib.hid hcell
  clear hcell
  go_wp2_with fail
  rw [hsh]
  clear hsh
  go_loopw [19, 7] (fun i o wr => ∃ r : Nat, r ≤ N ∧ i = .int .i64 r ∧ o = .int .u64 (Way.tabTo k c.strip r) ∧ Below (w.heap.size + 1) w1 wr) (fun i _ _ => N - (intOf i).toNat)
  case atStart => exact ⟨0, by omega, rfl, rfl, Below.refl _ _⟩
  case round =>
    obtain ⟨r, hr, rfl, rfl, hbr⟩ := hrel
    obtain ⟨wo, rfl⟩ : ∃ wo : World, wo = wr := ⟨_, rfl⟩
    clear hc hf
    by_cases hlt : r < N
    · have hrI : (r : Int) < N := by omega
      have hmk := run_make_row' (P := Try.prog) 24 3 (.int .i64 0) 8 Try.underlying24 Try.info3 rfl .i64 .i64 k (by omega) (by omega)
      have hsr := hbr.size
      have hnew := Lib.hid (World.rowIs_made wo (.int .i64 0) k 3)
      have hbn := Lib.hid (hbr.alloc (by omega) (.cells (madeCells #[.int .i64 0] k) 3))
      go_wp2_with fail
      go_loopw [26] (fun i wr => ∃ j : Nat, j ≤ k ∧ i = .int .i64 j ∧ Below (w.heap.size + 1) w1 wr ∧ wr.rowIs wo.heap.size 3 k (fun i => .int .i64 (if i < j then Way.bitI r i else 0)) ∧ wo.heap.size < wr.heap.size) (fun i _ => k - (intOf i).toNat)
      case atStart => exact ⟨0, by omega, rfl, hbn.out, hnew.out.congr (fun i _ => by simp), by simp⟩
      case round =>
        obtain ⟨j, hj, rfl, hbi, hrow, hsi⟩ := hrel
        by_cases hjk : j < k
        · have hjI : (j : Int) < k := by omega
          have hcj := hrow.cell hjk
          have hfj := hrow.frozen j
          have Hrow := Lib.hid hrow
          clear hrow
          have hbit := row_bit r j
          go_wp2_with fail
          go_roundw
          case rel => exact ⟨j + 1, by omega, by go_num, hbi.setCell (by show _ ≤ wo.heap.size; omega) _, row_step Hrow.out, by simpa [World.setCell] using hsi⟩
          case measure => simp [intOf]; omega
        · have hints := Lib.hid (row_full hjk hrow (by omega))
          clear hrow
          have hbox := fun i => Hcell.out i wr hbi
          have hval := Lib.hid (value_row c hs k r k (some ⟨wo.heap.size, 0, none⟩) (Way.chk_good h0.out).2.2.1)
          have hsw : w.heap.size + 1 ≤ wo.heap.size := by omega
          go_wp2_with fail
          refine (hval.out _ (wo.heap.size + 1) (by omega) ?_ hints.out).mono ?_
          · exact ((hin.out.below_ (hbw.mono hB)).below_ (hbi.mono (by omega))).mono (by omega)
          rintro e w2 ⟨rfl, hb2⟩
          have hbn2 : Below (w.heap.size + 1) w1 w2 := hbi.trans (hb2.mono (by omega))
          obtain ⟨v, hve⟩ : ∃ v, v = c.strip.val (Way.rowOf k r) := ⟨_, rfl⟩
          rw [← hve]
          have Hve := Lib.hid hve
          clear hve hbox
          by_cases hv : v = 1
          · have t : (v == 1) = true := by simpa using hv
            have Hv := Lib.hid hv
            clear hv
            go_wp2_with fail
            go_roundw
            case rel => exact ⟨r + 1, by omega, by go_num, by rw [tab_or Hve.out Hv.out, or_bit (Way.tabTo_lt _ _ r) (by omega)], hbn2⟩
            case measure => simp [intOf]; omega
          · have t : (v == 1) = false := by simpa using hv
            have Hv := Lib.hid hv
            clear hv
            go_wp2_with fail
            go_roundw
            case rel => exact ⟨r + 1, by omega, by go_num, by rw [tab_same Hve.out Hv.out], hbn2⟩
            case measure => simp [intOf]; omega
    · go_wp2_with fail
      go_ret2
      exact ⟨ret_tab (by unfold Way.tab; rw [show r = N by omega, hN.out]), hbw.trans (hbr.mono (by omega))⟩

set_option maxHeartbeats 400000 in
theorem table_bad (c : WT) (hs : c.Small) (k : Int) (w : World) (B : Nat) (hB : B ≤ w.heap.size) (hin : Hid (c.In w B)) (h0 : Hid (¬ Way.chk k c.strip = 0)) :
    Calls Try.prog 9 #[c.agg, .int .i64 k] w fun e w' => e = .returned (.tuple #[.int .u64 0, .int .i64 (Way.chk k c.strip)]) ∧ Below w.heap.size w w' := by
  have hck := Lib.hid (check_top k c hs)
  obtain ⟨q, hq⟩ : ∃ q, q = Way.chk k c.strip := ⟨_, rfl⟩
  rw [← hq]
  have Hq := Lib.hid hq
  clear hq
  have t : (q != 0) = true := by have := h0.out; rw [← Hq.out] at this; simpa using this
  unfold WT.agg
  go_enter Try.func9, Try.ntmps9
  go_wp2_with fail
  refine (hck.out _ B ?_ ?_).mono ?_
  · simp; omega
  · exact Lib.hid (hin.out.alloc hB _)
  rw [← Hq.out]
  rintro e w1 ⟨rfl, hb1⟩
  have hbw : Below w.heap.size w w1 := ((Below.refl _ _).alloc (Nat.le_refl _) _).trans (hb1.mono (by simp))
  go_wp2_with fail
  go_ret2
  exact ⟨rfl, hbw⟩

theorem table_any (c : WT) (hs : c.Small) (k : Int) (w : World) (B : Nat) (hB : B ≤ w.heap.size) (hin : Hid (c.In w B)) :
    Calls Try.prog 9 #[c.agg, .int .i64 k] w fun e w' => e = .returned (.tuple #[.int .u64 (Way.table k c.strip).1, .int .i64 (Way.table k c.strip).2]) ∧ Below w.heap.size w w' := by
  unfold Way.table
  by_cases h : Way.chk k c.strip = 0
  · rw [if_neg (by simpa using h)]
    have hg := Way.chk_good h
    obtain ⟨n, rfl⟩ := Int.eq_ofNat_of_zero_le hg.1
    rw [Int.toNat_natCast]
    have hn : n ≤ 6 := by omega
    have hN : (2 : Nat) ^ n ≤ 2 ^ 6 := Nat.pow_le_pow_right (by omega) hn
    exact table_good c hs n hn w B hB hin (Lib.hid h) (2 ^ n) (Lib.hid rfl) (by omega) (pow_small rfl (by omega))
  · rw [if_pos h]
    exact table_bad c hs k w B hB hin (Lib.hid h)
end Go.Proofs.Ytbjadcanfngijaa
