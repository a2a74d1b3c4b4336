/- voltaiclaw.GatesSay walked where the expression is not taken. -/
import Derived.Test.YtbjadcanfngijaaSay
import Derived.Test.YtbjadcanfngijaaRefCheck
import Derived.Test.YtbjadcanfngijaaLeads
import Derived.Test.YtbjadcanfngijaaSame
import Derived.Test.YtbjadcanfngijaaRisksBad
import Derived.Test.YtbjadcanfngijaaKleeneBad
namespace Go.Proofs.Ytbjadcanfngijaa
open Go.RowKit

def WT.zero : WT := ⟨0, 0, false, none, 0, []⟩
theorem zero_same (w : World) : Calls Try.prog 16 #[.agg #[.int .i64 0, .int .i64 0, .bool false, .slice none 0 0], .agg #[.int .i64 0, .int .i64 0, .bool false, .slice none 0 0]] w fun e w' => e = .returned (.bool true) ∧ Below w.heap.size w w' :=
  same_any WT.zero (.mk _ (by simp [WT.zero]) (fun c hc => by cases hc)) WT.zero rfl w w.heap.size (Nat.le_refl _) (.mk _ (fun h => by simp [WT.zero] at h) (fun c hc => by cases hc)) (.mk _ (fun h => by simp [WT.zero] at h) (fun c hc => by cases hc))

set_option maxRecDepth 100000 in
set_option maxHeartbeats 1600000 in
theorem say_bad (c : WT) (hs : c.Small) (hf : c.strip.pre.length ≤ 1048577) (xs : List Int) (A : Option Addr) (cx n : Nat) (k : Int) (w : World) (B : Nat) (hB : B ≤ w.heap.size) (hin : Hid (c.In w B)) (hx : Hid (IntsAt w B A xs)) (hn : Hid (n = xs.length)) (hn63 : n ≤ 9223372036854775807)
    (h0 : Hid (¬ Way.chk k c.strip = 0)) (q : Int) (hq : Hid (q = Way.chk k c.strip)) (r1 r2 : Int) (hr : Hid (Way.closed xs c.strip = (r1, r2))) (q2 : Int) (hq2 : Hid (q2 = Way.chk xs.length c.strip)) :
    Calls Try.prog 5 #[c.agg, .slice A n cx, .int .i64 k] w fun e w' => e = .returned (.bool true) ∧ Below w.heap.size w w' := by
  have hq0 : ¬ q = 0 := by rw [hq.out]; exact h0.out
  have t0 : (q == 0) = false := by simpa using hq0
  have t1 : (q != 0) = true := by simpa using hq0
  have t2 : (q == q) = true := by simp
  have t3 : (q != q) = false := by simp
  have s3 : (r2 != r2) = false := by simp
  have s4 : (r1 != r1) = false := by simp
  have Hq0 := Lib.hid hq0
  clear hq0
  unfold WT.agg
  go_enter Try.func5, Try.ntmps5
  go_wp2_with fail
  refine (closes_any _).mono ?_
  rintro e w1 ⟨rfl, hb1⟩
  have b1 : Below (w.heap.size + 1) (w.alloc (.cells #[.int .i64 c.kind, .int .i64 c.inp, .bool c.neg, .slice c.adr c.args.length c.cap] 29)) w1 := hb1.mono (by simp)
  have bl1 : Below w.heap.size w w1 := ((Below.refl _ _).alloc (Nat.le_refl _) _).trans (b1.mono (by omega))
  have hs1 := b1.size
  simp only [World.size_alloc] at hs1
  obtain ⟨x0, x1, x2, x3⟩ := boxed b1
  go_wp2_with fail
  refine (ref_check k c w1 B (by omega) (Lib.hid (hin.out.below_ (bl1.mono hB))) hf).mono ?_
  rw [← hq.out]
  rintro e w2 ⟨rfl, hb2⟩
  have b2 := b1.trans (hb2.mono hs1)
  have bl2 : Below w.heap.size w w2 := bl1.trans (hb2.mono (by omega))
  have hs2 := b2.size
  simp only [World.size_alloc] at hs2
  clear x0 x1 x2 x3
  obtain ⟨x0, x1, x2, x3⟩ := boxed b2
  go_wp2_with fail
  refine (table_bad c hs k w2 B (by omega) (Lib.hid (hin.out.below_ (bl2.mono hB))) h0).mono ?_
  rw [← hq.out]
  rintro e w3 ⟨rfl, hb3⟩
  have b3 := b2.trans (hb3.mono hs2)
  have bl3 : Below w.heap.size w w3 := bl2.trans (hb3.mono (by omega))
  have hs3 := b3.size
  simp only [World.size_alloc] at hs3
  clear x0 x1 x2 x3
  obtain ⟨x0, x1, x2, x3⟩ := boxed b3
  go_wp2_with fail
  refine (dual_bad c hs k w3 B (by omega) (Lib.hid (hin.out.below_ (bl3.mono hB))) h0).mono ?_
  rw [← hq.out]
  rintro e w4 ⟨rfl, hb4⟩
  obtain ⟨wb, hwb⟩ : ∃ wb, wb = w4.alloc (.cells #[.int .i64 0, .int .i64 0, .bool false, .slice none 0 0] 29) := ⟨_, rfl⟩
  have hs4 : w.heap.size + 1 ≤ w4.heap.size := by have := hb4.size; omega
  have b4 : Below (w.heap.size + 1) (w.alloc (.cells #[.int .i64 c.kind, .int .i64 c.inp, .bool c.neg, .slice c.adr c.args.length c.cap] 29)) wb := by rw [hwb]; exact (b3.trans (hb4.mono hs3)).alloc hs4 _
  have bl4 : Below w.heap.size w wb := ((Below.refl _ _).alloc (Nat.le_refl _) _).trans (b4.mono (by omega))
  have hsb : wb.heap.size = w4.heap.size + 1 := by rw [hwb]; simp
  have hbox : wb.heap[w4.heap.size]? = some (.cells #[.int .i64 0, .int .i64 0, .bool false, .slice none 0 0] 29 (0, 0)) := by rw [hwb]; exact heap_alloc_new w4 _
  clear x0 x1 x2 x3
  obtain ⟨x0, x1, x2, x3⟩ := boxed b4
  rw [hwb] at x0 x1 x2 x3
  go_wp2_with fail
  rw [← hwb]
  have Hwb := Lib.hid hwb
  clear hwb
  refine (risks_bad c hs k wb B (by omega) (Lib.hid (hin.out.below_ (bl4.mono hB))) h0).mono ?_
  rw [← hq.out]
  rintro e w5 ⟨rfl, hb5⟩
  have b5 := b4.trans (hb5.mono (by omega))
  have bl5 : Below w.heap.size w w5 := bl4.trans (hb5.mono (by omega))
  have hs5 := hb5.size
  clear x0 x1 x2 x3
  obtain ⟨x0, x1, x2, x3⟩ := boxed b5
  go_wp2_with fail
  refine (check_top k c hs w5 B (by omega) (Lib.hid (hin.out.below_ (bl5.mono hB)))).mono ?_
  rw [← hq.out]
  rintro e w6 ⟨rfl, hb6⟩
  have b6 := b5.trans (hb6.mono (by omega))
  have bl6 : Below w.heap.size w w6 := bl5.trans (hb6.mono (by omega))
  have hs6 := hb6.size
  clear x0 x1 x2 x3
  obtain ⟨x0, x1, x2, x3⟩ := boxed b6
  go_wp2_with fail
  have hcl := closed_any c hs xs A cx w6 B (by omega) (Lib.hid (hin.out.below_ (bl6.mono hB))) (Lib.hid (hx.out.below (bl6.mono hB))) (by rw [← hn.out]; omega)
  rw [hr.out, ← hn.out] at hcl
  refine hcl.mono ?_
  clear hcl
  rintro e w7 ⟨rfl, hb7⟩
  have b7 := b6.trans (hb7.mono (by omega))
  have bl7 : Below w.heap.size w w7 := bl6.trans (hb7.mono (by omega))
  have hs7 := hb7.size
  clear x0 x1 x2 x3
  obtain ⟨x0, x1, x2, x3⟩ := boxed b7
  go_wp2_with fail
  refine (ref_check n c w7 B (by omega) (Lib.hid (hin.out.below_ (bl7.mono hB))) hf).mono ?_
  rw [hn.out, ← hq2.out, ← hn.out]
  rintro e w8 ⟨rfl, hb8⟩
  have b8 := b7.trans (hb8.mono (by omega))
  have bl8 : Below w.heap.size w w8 := bl7.trans (hb8.mono (by omega))
  have hs8 := hb8.size
  have bb8 : Below (w4.heap.size + 1) wb w8 := ((((hb5.trans (hb6.mono hs5)).trans (hb7.mono (by omega))).trans (hb8.mono (by omega))).mono (by omega))
  have hbx := Lib.hid (hx.out.below (bl8.mono hB))
  clear x0 x1 x2 x3 b1 b2 b3 b4 b5 b6 b7 hb1 hb2 hb3 hb4 hb5 hb6 hb7 hb8 bl1 bl2 bl3 bl4 bl5 bl6 bl7
  obtain ⟨x0, x1, x2, x3⟩ := boxed b8
  have hbox8 := (bb8.block w4.heap.size (by omega)).trans hbox
  have y0 : w8.cell? ⟨w4.heap.size, 0, none⟩ = some (.int .i64 0) := cell_at hbox8
  have y1 : w8.cell? ⟨w4.heap.size, 1, none⟩ = some (.int .i64 0) := cell_at hbox8
  have y2 : w8.cell? ⟨w4.heap.size, 2, none⟩ = some (.bool false) := cell_at hbox8
  have y3 : w8.cell? ⟨w4.heap.size, 3, none⟩ = some (.slice none 0 0) := cell_at hbox8
  go_wp2_with fail
  go_loop [81, 17] (fun i b => ∃ (j : Nat) (bd : Int), j ≤ n ∧ i = .int .i64 j ∧ b = .int .i64 bd ∧ Hid (bd = Way.badTo xs q2 j)) (fun i _ => n - (intOf i).toNat)
  case atStart => exact ⟨0, q2, by omega, rfl, rfl, Lib.hid (Way.badTo_zero xs q2).symm⟩
  case round =>
    obtain ⟨j, bd, hj, rfl, rfl, hbd⟩ := hrel
    by_cases hlt : j < n
    · obtain ⟨b, o, hA, hbB, hcs⟩ := hbx.out (by rw [← hn.out]; omega)
      have hcj := hcs j (by rw [← hn.out]; omega)
      obtain ⟨y, hy⟩ : ∃ y, y = xs.getD j 0 := ⟨_, rfl⟩
      rw [← hy] at hcj
      have Hy := Lib.hid hy
      clear hcs hy
      subst hA
      have hkI : (j : Int) < (n : Int) := by omega
      have hjl : Hid (j < xs.length) := Lib.hid (by rw [← hn.out]; exact hlt)
      by_cases g : bd = 0
      · subst g
        by_cases g1 : y < 0
        · go_wp2_with fail
          go_round
          case rel => exact ⟨j + 1, 5, by omega, by go_num, rfl, Lib.hid (Way.badTo_hit hjl.out hbd.out.symm Hy.out (.inl g1)).symm⟩
          case measure => simp [intOf]; omega
        by_cases g2 : 2 < y
        · go_wp2_with fail
          go_round
          case rel => exact ⟨j + 1, 5, by omega, by go_num, rfl, Lib.hid (Way.badTo_hit hjl.out hbd.out.symm Hy.out (.inr g2)).symm⟩
          case measure => simp [intOf]; omega
        · go_wp2_with fail
          go_round
          case rel => exact ⟨j + 1, 0, by omega, by go_num, rfl, Lib.hid (Way.badTo_on hjl.out hbd.out Hy.out (by omega))⟩
          case measure => simp [intOf]; omega
      · have gb : (bd == 0) = false := by simpa using g
        go_wp2_with fail
        go_round
        case rel => exact ⟨j + 1, bd, by omega, by go_num, rfl, Lib.hid (Way.badTo_on hjl.out hbd.out Hy.out (by omega))⟩
        case measure => simp [intOf]; omega
    · have hend : bd = r2 := by
        have h1 := hbd.out
        rw [hq2.out, Way.badTo_end (by rw [← hn.out]; exact hlt), hr.out] at h1
        exact h1
      subst hend
      clear hbd
      by_cases g : bd = 0
      · obtain ⟨g1, g2, g3⟩ := Way.closed_zero hr.out g
        subst g
        have hl := leads_any xs A cx (Way.even_all g2) c hs (Way.chk_good g1).2.2.1 w8 B (by omega) (hin.out.below_ (bl8.mono hB)) hbx.out
        rw [← g3, ← hn.out] at hl
        have Hl := Lib.hid hl
        clear hl g1 g2 g3
        have hs9 := hs8
        go_wp2_with fail
        refine Hl.out.mono ?_
        rintro e w9 ⟨rfl, hb9⟩
        have bb9 := bb8.trans (hb9.mono (by omega))
        have bl9 : Below w.heap.size w w9 := bl8.trans (hb9.mono (by omega))
        have hbox9 := (bb9.block w4.heap.size (by omega)).trans hbox
        clear y0 y1 y2 y3
        have y0 : w9.cell? ⟨w4.heap.size, 0, none⟩ = some (.int .i64 0) := cell_at hbox9
        have y1 : w9.cell? ⟨w4.heap.size, 1, none⟩ = some (.int .i64 0) := cell_at hbox9
        have y2 : w9.cell? ⟨w4.heap.size, 2, none⟩ = some (.bool false) := cell_at hbox9
        have y3 : w9.cell? ⟨w4.heap.size, 3, none⟩ = some (.slice none 0 0) := cell_at hbox9
        have hs9 := hb9.size
        go_wp2_with fail
        refine (zero_same w9).mono ?_
        rintro e w10 ⟨rfl, hb10⟩
        go_wp2_with fail
        go_ret
        exact ⟨rfl, bl9.trans (hb10.mono (by omega))⟩
      · have gb : (bd == 0) = false := by simpa using g
        obtain rfl := Way.closed_one hr.out g
        go_wp2_with fail
        refine (zero_same w8).mono ?_
        rintro e w10 ⟨rfl, hb10⟩
        go_wp2_with fail
        go_ret
        exact ⟨rfl, bl8.trans (hb10.mono (by omega))⟩
end Go.Proofs.Ytbjadcanfngijaa
