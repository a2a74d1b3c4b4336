/- voltaiclaw.GatesSay walked where the expression is taken. -/
import Derived.Test.YtbjadcanfngijaaSayBad
import Derived.Test.YtbjadcanfngijaaRowsOf
import Derived.Test.YtbjadcanfngijaaOther
import Derived.Test.YtbjadcanfngijaaPairs
import Derived.Test.YtbjadcanfngijaaKleeneWalk
import Derived.Deep.DeepCutAuto
import Derived.Deep.RegionHeld3
import Derived.Test.YtbjadcanfngijaaSayLems
namespace Go.Proofs.Ytbjadcanfngijaa
open Go.RowKit

theorem and_four {a b c d e f g h : Prop} (H : (a ∧ b ∧ c ∧ d) ∧ e ∧ f ∧ g ∧ h) : a ∧ b ∧ c ∧ d ∧ e ∧ f ∧ g ∧ h := ⟨H.1.1, H.1.2.1, H.1.2.2.1, H.1.2.2.2, H.2⟩

set_option maxRecDepth 100000 in
set_option maxHeartbeats 6400000 in
theorem say_good (c : WT) (hs : c.Small) (hf : c.strip.pre.length ≤ 1048577) (xs : List Int) (A : Option Addr) (cx n : Nat) (k : Nat) (hk : k ≤ 6) (w : World) (B : Nat) (hB : B ≤ w.heap.size) (hin : Hid (c.In w B)) (hx : Hid (IntsAt w B A xs)) (hn : Hid (n = xs.length)) (hn63 : n ≤ 9223372036854775807)
    (h0 : Hid (Way.chk k c.strip = 0)) (T : Nat) (hT : Hid (T = Way.tab k c.strip)) (hTb : Hid (T < 18446744073709551616)) (N : Nat) (hN : Hid (N = 2 ^ k)) (hNb : N ≤ 64) (hsh : wrap64 ((2 : Int) ^ k) = N) (r1 r2 : Int) (hr : Hid (Way.closed xs c.strip = (r1, r2))) (q2 : Int) (hq2 : Hid (q2 = Way.chk xs.length c.strip)) :
    Calls Try.prog 5 #[c.agg, .slice A n cx, .int .i64 k] w fun e w' => e = .returned (.bool true) ∧ Below w.heap.size w w' := by
  have s3 : (r2 != r2) = false := by simp
  have s4 : (r1 != r1) = false := by simp
  unfold WT.agg
  go_enter Try.func5, Try.ntmps5
  go_wp2_with fail
  refine (closes_any _).mono ?_
  rintro e w1 ⟨rfl, hb1⟩
  have b1 : Below (w.heap.size + 1) (w.alloc (.cells #[.int .i64 c.kind, .int .i64 c.inp, .bool c.neg, .slice c.adr c.args.length c.cap] 29)) w1 := hb1.mono (by simp)
  have bl1 : Below w.heap.size w w1 := ((Below.refl _ _).alloc (Nat.le_refl _) _).trans (b1.mono (by omega))
  have hs1 := b1.size
  simp only [World.size_alloc] at hs1
  obtain ⟨x0, x1, x2, x3⟩ := boxed b1
  go_wp2_with fail
  refine (ref_check k c w1 B (by omega) (Lib.hid (hin.out.below_ (bl1.mono hB))) hf).mono ?_
  rw [h0.out]
  rintro e w2 ⟨rfl, hb2⟩
  have b2 := b1.trans (hb2.mono hs1)
  have bl2 : Below w.heap.size w w2 := bl1.trans (hb2.mono (by omega))
  have hs2 := b2.size
  simp only [World.size_alloc] at hs2
  clear x0 x1 x2 x3
  obtain ⟨x0, x1, x2, x3⟩ := boxed b2
  go_wp2_with fail
  have hta := table_any c hs k w2 B (by omega) (Lib.hid (hin.out.below_ (bl2.mono hB)))
  rw [table_of_good h0.out hT.out] at hta
  refine hta.mono ?_
  clear hta
  rintro e w3 ⟨rfl, hb3⟩
  have b3 := b2.trans (hb3.mono hs2)
  have bl3 : Below w.heap.size w w3 := bl2.trans (hb3.mono (by omega))
  have hs3 := b3.size
  simp only [World.size_alloc] at hs3
  clear x0 x1 x2 x3
  obtain ⟨x0, x1, x2, x3⟩ := boxed b3
  go_wp2_with fail
  refine (dual_top c hs k w3 B (by omega) (Lib.hid (hin.out.below_ (bl3.mono hB))) h0).mono ?_
  rintro e w4 ⟨d, rfl, hd1, hd2, hb4⟩
  have hdin := Lib.hid (hd2.in_ (B := w4.heap.size) (fun b hb => hb.2))
  clear hd2
  obtain ⟨wb, hwb⟩ : ∃ wb, wb = w4.alloc (.cells #[.int .i64 d.kind, .int .i64 d.inp, .bool d.neg, .slice d.adr d.args.length d.cap] 29) := ⟨_, rfl⟩
  have hs4 : w.heap.size + 1 ≤ w4.heap.size := by have := hb4.size; omega
  have b4 : Below (w.heap.size + 1) (w.alloc (.cells #[.int .i64 c.kind, .int .i64 c.inp, .bool c.neg, .slice c.adr c.args.length c.cap] 29)) wb := by rw [hwb]; exact (b3.trans (hb4.mono hs3)).alloc hs4 _
  have bl4 : Below w.heap.size w wb := ((Below.refl _ _).alloc (Nat.le_refl _) _).trans (b4.mono (by omega))
  have hsb : wb.heap.size = w4.heap.size + 1 := by rw [hwb]; simp
  have hbox : wb.heap[w4.heap.size]? = some (.cells #[.int .i64 d.kind, .int .i64 d.inp, .bool d.neg, .slice d.adr d.args.length d.cap] 29 (0, 0)) := by rw [hwb]; exact heap_alloc_new w4 _
  clear x0 x1 x2 x3
  have B4 := Lib.hid b4
  have BL4 := Lib.hid bl4
  obtain ⟨x0, x1, x2, x3⟩ := boxed b4
  rw [hwb] at x0 x1 x2 x3
  go_wp2_with fail
  rw [← hwb]
  have Hwb := Lib.hid hwb
  clear hwb
  refine (risks_at c hs k wb B (by omega) (hin.out.below_ (bl4.mono hB)) h0.out).mono ?_
  rintro e w5 ⟨ra, rc, rfl, hpr, hb5⟩
  have Hpr := Lib.hid hpr
  clear hpr
  have b5 := b4.trans (hb5.mono (by omega))
  have bl5 : Below w.heap.size w w5 := bl4.trans (hb5.mono (by omega))
  have hs5 := hb5.size
  clear x0 x1 x2 x3
  obtain ⟨x0, x1, x2, x3⟩ := boxed b5
  go_wp2_with fail
  refine (check_top k c hs w5 B (by omega) (Lib.hid (hin.out.below_ (bl5.mono hB)))).mono ?_
  rw [h0.out]
  rintro e w6 ⟨rfl, hb6⟩
  have b6 := b5.trans (hb6.mono (by omega))
  have bl6 : Below w.heap.size w w6 := bl5.trans (hb6.mono (by omega))
  have hs6 := hb6.size
  clear x0 x1 x2 x3
  obtain ⟨x0, x1, x2, x3⟩ := boxed b6
  go_wp2_with fail
  have hcl := closed_any c hs xs A cx w6 B (by omega) (Lib.hid (hin.out.below_ (bl6.mono hB))) (Lib.hid (hx.out.below (bl6.mono hB))) (by rw [← hn.out]; omega)
  rw [hr.out, ← hn.out] at hcl
  refine hcl.mono ?_
  clear hcl
  rintro e w7 ⟨rfl, hb7⟩
  have b7 := b6.trans (hb7.mono (by omega))
  have bl7 : Below w.heap.size w w7 := bl6.trans (hb7.mono (by omega))
  have hs7 := hb7.size
  clear x0 x1 x2 x3
  obtain ⟨x0, x1, x2, x3⟩ := boxed b7
  go_wp2_with fail
  refine (ref_check n c w7 B (by omega) (Lib.hid (hin.out.below_ (bl7.mono hB))) hf).mono ?_
  rw [hn.out, ← hq2.out, ← hn.out]
  rintro e w8 ⟨rfl, hb8⟩
  have b8 := b7.trans (hb8.mono (by omega))
  have bl8 : Below w.heap.size w w8 := bl7.trans (hb8.mono (by omega))
  have hs8 := hb8.size
  have bb8 : Below (w4.heap.size + 1) wb w8 := ((((hb5.trans (hb6.mono hs5)).trans (hb7.mono (by omega))).trans (hb8.mono (by omega))).mono (by omega))
  have hbx := Lib.hid (hx.out.below (bl8.mono hB))
  have Hpr8 : Hid (PairsAt w8 w8.heap.size ra (Way.risks k c.strip)) := Lib.hid ((((Hpr.out.below hb6).below (hb7.mono hs6)).below (hb8.mono (by omega))).mono (by omega))
  have bd8 : Below w4.heap.size w4 w8 := (by rw [Hwb.out]; exact (Below.refl _ _).alloc (Nat.le_refl _) _ : Below w4.heap.size w4 wb).trans (bb8.mono (by omega))
  have Hd8 : Hid (WT.In w8 w8.heap.size d) := Lib.hid ((hdin.out.below_ bd8).mono bd8.size)
  have Hy8 : Hid (w8.heap[w4.heap.size]? = some (.cells #[.int .i64 d.kind, .int .i64 d.inp, .bool d.neg, .slice d.adr d.args.length d.cap] 29 (0, 0))) := Lib.hid ((bb8.block w4.heap.size (by omega)).trans hbox)
  have h48 : w4.heap.size < w8.heap.size := by have := bb8.size; omega
  clear hbox hdin Hpr bd8 Hwb
  clear x0 x1 x2 x3 b1 b2 b3 b4 b5 b6 b7 hb1 hb2 hb3 hb4 hb5 hb6 hb7 hb8 bl1 bl2 bl3 bl4 bl5 bl6 bl7
  obtain ⟨x0, x1, x2, x3⟩ := boxed b8
  go_wp2_with fail
  go_loop [81, 17] (fun i b => ∃ (j : Nat) (bd : Int), j ≤ n ∧ i = .int .i64 j ∧ b = .int .i64 bd ∧ Hid (bd = Way.badTo xs q2 j)) (fun i _ => n - (intOf i).toNat)
  case atStart => exact ⟨0, q2, by omega, rfl, rfl, Lib.hid (Way.badTo_zero xs q2).symm⟩
  case round =>
    obtain ⟨j, bd, hj, rfl, rfl, hbd⟩ := hrel
    by_cases hlt : j < n
    · obtain ⟨b, o, hA, hbB, hcs⟩ := hbx.out (by rw [← hn.out]; omega)
      have hcj := hcs j (by rw [← hn.out]; omega)
      obtain ⟨y, hy⟩ : ∃ y, y = xs.getD j 0 := ⟨_, rfl⟩
      rw [← hy] at hcj
      have Hy := Lib.hid hy
      clear hcs hy
      subst hA
      have hkI : (j : Int) < (n : Int) := by omega
      have hjl : Hid (j < xs.length) := Lib.hid (by rw [← hn.out]; exact hlt)
      by_cases g : bd = 0
      · subst g
        by_cases g1 : y < 0
        · go_wp2_with fail
          go_round
          case rel => exact ⟨j + 1, 5, by omega, by go_num, rfl, Lib.hid (Way.badTo_hit hjl.out hbd.out.symm Hy.out (.inl g1)).symm⟩
          case measure => simp [intOf]; omega
        by_cases g2 : 2 < y
        · go_wp2_with fail
          go_round
          case rel => exact ⟨j + 1, 5, by omega, by go_num, rfl, Lib.hid (Way.badTo_hit hjl.out hbd.out.symm Hy.out (.inr g2)).symm⟩
          case measure => simp [intOf]; omega
        · go_wp2_with fail
          go_round
          case rel => exact ⟨j + 1, 0, by omega, by go_num, rfl, Lib.hid (Way.badTo_on hjl.out hbd.out Hy.out (by omega))⟩
          case measure => simp [intOf]; omega
      · have gb : (bd == 0) = false := by simpa using g
        go_wp2_with fail
        go_round
        case rel => exact ⟨j + 1, bd, by omega, by go_num, rfl, Lib.hid (Way.badTo_on hjl.out hbd.out Hy.out (by omega))⟩
        case measure => simp [intOf]; omega
    · have hend : bd = r2 := by
        have h1 := hbd.out
        rw [hq2.out, Way.badTo_end (by rw [← hn.out]; exact hlt), hr.out] at h1
        exact h1
      subst hend
      clear hbd
      go_upto_if 97 with fail
      go_cut [16] (fun v wx => v = .int .i64 r1 ∧ Below w8.heap.size w8 wx)
      case first =>
        by_cases g : bd = 0
        · obtain ⟨g1, g2, g3⟩ := Way.closed_zero hr.out g
          subst g
          have hl := leads_any xs A cx (Way.even_all g2) c hs (Way.chk_good g1).2.2.1 w8 B (by omega) (hin.out.below_ (bl8.mono hB)) hbx.out
          rw [← g3, ← hn.out] at hl
          have Hl := Lib.hid hl
          clear hl g1 g2 g3
          go_wp2_with fail
          refine Hl.out.mono ?_
          rintro e w9 ⟨rfl, hb9⟩
          go_wp2_with fail
          go_meet
          case rel => exact ⟨rfl, hb9⟩
        · have gb : (bd == 0) = false := by simpa using g
          obtain rfl := Way.closed_one hr.out g
          go_wp2_with fail
          go_meet
          case rel => exact ⟨rfl, Below.refl _ _⟩
      case rest =>
        obtain ⟨rfl, hb9⟩ := hcut
        have Hbox : Hid (∀ wr, Below w8.heap.size w8 wr → Below (w.heap.size + 1) (w.alloc (.cells #[.int .i64 c.kind, .int .i64 c.inp, .bool c.neg, .slice c.adr c.args.length c.cap] 29)) wr) := Lib.hid fun wr h => b8.trans (h.mono (by have := b8.size; simpa using this))
        have Hin : Hid (∀ wr, Below w8.heap.size w8 wr → c.In wr B) := Lib.hid fun wr h => (hin.out.below_ ((bl8.trans (h.mono bl8.size)).mono hB))
        have hsw8 := bl8.size
        have BL8 := Lib.hid bl8
        have HB := Lib.hid hB
        have Hsh := Lib.hid hsh
        clear x0 x1 x2 x3 hf hx hn63 hs1 hs2 hs3 hs4 hsb hs5 hs6 hs7 hs8 b8 bl8 bb8 hbx B4 BL4 hlt hj hr hq2
        go_wp2_with fail
        try rw [hsh]
        clear s3 s4 hsh
        go_loopw [125, 20] (fun i o wr => ∃ r : Nat, r ≤ N ∧ i = .int .i64 r ∧ o = .int .u64 (Way.tabTo k c.strip r) ∧ Below w8.heap.size w8 wr) (fun i _ _ => N - (intOf i).toNat)
        case atStart => exact ⟨0, by omega, rfl, rfl, hb9⟩
        case round =>
          clear hb9
          obtain ⟨r, hr', rfl, rfl, hbr⟩ := hrel
          obtain ⟨wo, rfl⟩ : ∃ wo : World, wo = wr := ⟨_, rfl⟩
          by_cases hlt2 : r < N
          · have hrI : (r : Int) < N := by omega
            have hr64 : (r : Int) < 64 := by omega
            obtain ⟨x0, x1, x2, x3⟩ := boxed (Hbox.out _ hbr)
            have hrows := rows_any k r hk
            have hleads : Hid (∀ (w1 w2 : World), Below wo.heap.size wo w1 → w1.rowIs wo.heap.size 3 k (fun i => .int .i64 (Way.bitI r i)) → w2 = w1 → wo.heap.size < w1.heap.size → Calls Try.prog 15 #[c.agg, .slice (some ⟨wo.heap.size, 0, none⟩) k k] w2 fun e w' => e = .returned (.int .i64 (c.strip.val (Way.rowOf k r))) ∧ Below wo.heap.size wo w') := Lib.hid fun w1 w2 hb hrow he hlt => by
              subst he
              have hsb := hbr.size
              refine (leads_row c hs k r k (some ⟨wo.heap.size, 0, none⟩) (Way.chk_good h0.out).2.2.1 w2 (wo.heap.size + 1) (by omega) (((Hin.out _ hbr).below_ (hb.mono (by omega))).mono (by omega)) (fun _ => ⟨_, 0, rfl, by omega, fun i hi => by
                rw [Way.rowOf_length] at hi
                rw [Nat.zero_add, hrow.cell hi, Way.rowOf_get k r i hi]⟩)).mono fun e w' ⟨he, hb'⟩ => ⟨he, hb.trans (hb'.mono hb.size)⟩
            have Hgo : Hid (∀ wr, Below wo.heap.size wo wr → wr.cell? ⟨w.heap.size, 0, none⟩ = some (.int .i64 c.kind) ∧ wr.cell? ⟨w.heap.size, 1, none⟩ = some (.int .i64 c.inp) ∧ wr.cell? ⟨w.heap.size, 2, none⟩ = some (.bool c.neg) ∧ wr.cell? ⟨w.heap.size, 3, none⟩ = some (.slice c.adr c.args.length c.cap)) := Lib.hid fun wr h => boxed (Hbox.out _ (hbr.trans (h.mono hbr.size)))
            go_upto_region 27 with fail
            go_cut [133] (fun v wx => v = .bool (decide (c.strip.val (Way.rowOf k r) = 1)) ∧ Below wo.heap.size wo wx)
            case first =>
              go_region_held3 (fun w' => w'.cell? ⟨w.heap.size, 0, none⟩ = some (.int .i64 c.kind) ∧ w'.cell? ⟨w.heap.size, 1, none⟩ = some (.int .i64 c.inp) ∧ w'.cell? ⟨w.heap.size, 2, none⟩ = some (.bool c.neg) ∧ w'.cell? ⟨w.heap.size, 3, none⟩ = some (.slice c.adr c.args.length c.cap))
                (first | exact Hgo.out _ hbz | exact Hgo.out _ hbq | exact Hgo.out _ (Below.refl _ _) | go_keep)
                (first
                | (go_at_call 17; refine (hrows _).mono ?_; rintro e w' ⟨rfl, hrow, hbq', hlq⟩; have hbq : Below wo.heap.size wo w' := ⟨hbq'.os, hbq'.tape, hbq'.output, hbq'.size, hbq'.block⟩)
                | (go_at_call 15; refine (hleads.out _ _ hbq hrow rfl hlq).mono ?_; rintro e w'' ⟨rfl, hbz⟩))
              go_wp2_with fail
              go_meet
              case rel => exact ⟨rfl, hbz⟩
            case rest =>
              obtain ⟨rfl, hbq⟩ := hcut
              obtain ⟨v, hve⟩ : ∃ v, v = c.strip.val (Way.rowOf k r) := ⟨_, rfl⟩
              rw [← hve]
              have Hve := Lib.hid hve
              have hbn := hbr.trans (hbq.mono hbr.size)
              clear hve hleads hrows x0 x1 x2 x3
              by_cases hv : v = 1
              · have t : (decide (v = 1)) = true := by simpa using hv
                have Hv := Lib.hid hv
                clear hv
                go_wp2_with fail
                go_roundw
                case rel => exact ⟨r + 1, by omega, by go_num, by rw [tab_or Hve.out Hv.out, or_bit (Way.tabTo_lt _ _ r) (by omega)], hbn⟩
                case measure => simp [intOf]; omega
              · have t : (decide (v = 1)) = false := by simpa using hv
                have Hv := Lib.hid hv
                clear hv
                go_wp2_with fail
                go_roundw
                case rel => exact ⟨r + 1, by omega, by go_num, by rw [tab_same Hve.out Hv.out], hbn⟩
                case measure => simp [intOf]; omega
          · obtain rfl : N = r := by omega
            have hTN : Way.tabTo k c.strip N = T := by rw [hT.out, Way.tab, hN.out]
            rw [hTN]
            clear hTN hlt2 hr'
            have hsh := Hsh.out
            obtain ⟨i0, hi0, hz0, hz1, hz2⟩ := info_parts Try.info48
            go_wp2_with fail
            try rw [hsh]
            clear hsh
            go_loopw [141, 22] (fun i o wr => ∃ (a : Nat) (ad : Option Addr) (m ca : Nat), a ≤ N ∧ i = .int .i64 a ∧ o = .slice ad m ca ∧ RiskRel w8.heap.size w8 wr (Way.risksTo k c.strip a) ad m ca) (fun i _ _ => N - (intOf i).toNat)
            case atStart => exact ⟨0, none, 0, 0, by omega, rfl, rfl, RiskRel.start_at hbr⟩
            case round =>
              obtain ⟨a, ad, m, ca, ha, rfl, rfl, hR⟩ := hrel
              obtain ⟨wo1, rfl⟩ : ∃ wo : World, wo = wr := ⟨_, rfl⟩
              by_cases hlt3 : a < N
              · have haI : (a : Int) < N := by omega
                have ha64 : (a : Int) < 64 := by omega
                go_wp2_with fail
                go_loopw [145, 22] (fun i o wr => ∃ (j : Nat) (ad : Option Addr) (m ca : Nat), j ≤ k ∧ i = .int .i64 j ∧ o = .slice ad m ca ∧ RiskRel w8.heap.size w8 wr (Way.risksTo k c.strip a ++ Way.riskRow k c.strip a j) ad m ca) (fun i _ _ => k - (intOf i).toNat)
                case atStart => exact ⟨0, ad, m, ca, by omega, rfl, rfl, by simpa [Way.riskRow] using hR⟩
                case round =>
                  obtain ⟨wo2, rfl⟩ : ∃ wo : World, wo = wr := ⟨_, rfl⟩
                  clear hR
                  obtain ⟨j, ad, m, ca, hj, rfl, rfl, hR2⟩ := hrel
                  by_cases hjk : j < k
                  · have hjI : (j : Int) < k := by omega
                    obtain ⟨bb, hbb⟩ : ∃ bb, bb = a ||| 2 ^ j := ⟨_, rfl⟩
                    have hbb64 : (bb : Int) < 64 := by have := or_lt (a := a) (j := j) (k := k) (by rw [← hN.out]; exact hlt3) hjk; rw [← hN.out, ← hbb] at this; omega
                    have hor := or_pow (a := a) (j := j) (by omega) (by omega) hbb
                    have ht1 := tab_and (r := a) hTb.out
                    have ht2 := tab_and (r := bb) hTb.out
                    have hbit := row_bit a j
                    have Hbb := Lib.hid hbb
                    clear hbb
                    have no : Way.riskB k c.strip a j = false → RiskRel w8.heap.size w8 wo2 (Way.risksTo k c.strip a ++ Way.riskRow k c.strip a (j + 1)) ad m ca := fun h => by rw [risk_no h]; exact hR2
                    have No := Lib.hid no
                    clear no
                    by_cases c1 : a.testBit j = true
                    · have t1 : (Way.bitI a j == 1) = true := by simp [Way.bitI, c1]
                      have C1 := Lib.hid c1
                      clear c1
                      go_wp2_with fail
                      go_roundw
                      case rel => exact ⟨j + 1, ad, m, ca, by omega, by go_num, rfl, No.out (risk_not hT.out (.inl C1.out))⟩
                      case measure => simp [intOf]; omega
                    · have t1 : (Way.bitI a j == 1) = false := by simp [Way.bitI, c1]
                      have C1 := Lib.hid c1
                      clear c1
                      by_cases c2 : T.testBit a = true
                      · have t2 : (Way.bitI T a == 0) = false := by rw [bitI_zero, c2]; rfl
                        have C2 := Lib.hid c2
                        clear c2
                        by_cases c3 : T.testBit bb = true
                        · have t3 : (Way.bitI T bb == 0) = false := by rw [bitI_zero, c3]; rfl
                          have C3 := Lib.hid c3
                          clear c3
                          have HR2 := Lib.hid hR2
                          have Hor := Lib.hid hor
                          clear hR2
                          go_wp2_with fail
                          clear hor ht1 ht2 hbit t1 t2 t3
                          have hR2 := HR2.out
                          have hrows := rows_any k a hk
                          have hne := hR2.ne (Nat.le_refl _)
                          have hs2 := hR2.below.size
                          refine (hrows _).mono ?_
                          rintro e wq ⟨rfl, hrow, hbq, hlq⟩
                          clear hrows HR2
                          have hcj := hrow.cell hjk
                          have hfj := hrow.frozen j
                          have hints := Lib.hid (ints_open hrow j)
                          clear hrow
                          have hRj := (hR2.to hbq (by omega)).setNew (b := wo2.heap.size) (i := j) (by omega) hne (.int .i64 2)
                          obtain ⟨x0, x1, x2, x3⟩ := boxed (Hbox.out _ hRj.below)
                          have hszj : wo2.heap.size + 1 ≤ (wq.setCell ⟨wo2.heap.size, j, none⟩ (.int .i64 2)).heap.size := by simp [World.setCell]; omega
                          have hnbH : Hid (m ≤ 400) := Lib.hid (by
                            have h1 := hR2.len
                            have h2 := Way.risksTo_len k c.strip a
                            have h3 := Way.riskRow_len k c.strip a j
                            have h4 : a * k ≤ 64 * 6 := Nat.mul_le_mul (by omega) hk
                            rw [List.length_append] at h1
                            omega)
                          have HRj := Lib.hid hRj
                          clear hRj hR2
                          go_wp2_with fail
                          refine (leads_set c hs k a j k (some ⟨wo2.heap.size, 0, none⟩) (Way.chk_good h0.out).2.2.1 _ (wo2.heap.size + 1) hszj ?_ hints.out).mono ?_
                          · exact (Hin.out _ HRj.out.below).mono (by omega)
                          rintro e wz ⟨rfl, hb2⟩
                          have hR3 := HRj.out.to hb2 (by omega)
                          have hs3 := hb2.size
                          obtain ⟨v, hve⟩ : ∃ v, v = c.strip.val ((Way.rowOf k a).set j 2) := ⟨_, rfl⟩
                          rw [← hve]
                          have Hve := Lib.hid hve
                          clear hve hcj hfj hb2 x0 x1 x2 x3
                          have hrb := Lib.hid (risk_bits hT.out Hve.out (Bool.eq_false_iff.2 C1.out) C2.out (by rw [← Hbb.out]; exact C3.out))
                          by_cases hv : v = 2
                          · have t : (v == 2) = true := by simpa using hv
                            have Hv := Lib.hid hv
                            clear hv
                            have hor := Hor.out
                            go_wp2_with (at_builtin; refine wpList_append_lies _ rfl (.tmp 180) (.tmp 187) 42 rfl w8.heap.size 48 i0 _ 2 16 Try.underlying42 hi0 hz0 hz1 hz2 rfl (by omega) (.slice ad m ca) m ((Way.risksTo k c.strip a ++ Way.riskRow k c.strip a j).flatMap pairCells) rfl (hR3.own.alloc _) ⟨wz.heap.size, 0, none⟩ 1 1 [.int .i64 a, .int .i64 bb] rfl rfl (World.news_of_block (cs := #[.int .i64 a, .int .i64 bb]) (t := 48) (fr := (0, 0)) (heap_alloc_new wz _)) (by simp [Value.oneCell']) (by omega) (by have := hnbH.out; unfold maxLen; omega) (by have := hnbH.out; omega) (by simp; omega) (wz.heap.size + 1) (by simp) ?_; intro gg cap w3' hown3 hg3 hat3 hlt3)
                            go_roundw
                            case rel => exact ⟨j + 1, some ⟨gg, 0, none⟩, m + 1, cap, by omega, by go_num, rfl, by rw [risk_yes (hrb.out.trans (by simpa using Hv.out)), ← Hbb.out, ← List.append_assoc]; exact hR3.add (by omega) hown3 hg3⟩
                            case measure => simp [intOf]; omega
                          · have t : (v == 2) = false := by simpa using hv
                            have Hv := Lib.hid hv
                            clear hv
                            go_wp2_with fail
                            go_roundw
                            case rel => exact ⟨j + 1, ad, m, ca, by omega, by go_num, rfl, by rw [risk_no (hrb.out.trans (by simpa using Hv.out))]; exact hR3⟩
                            case measure => simp [intOf]; omega
                        · have t3 : (Way.bitI T bb == 0) = true := by rw [bitI_zero]; simp [c3]
                          have C3 := Lib.hid (Bool.eq_false_iff.2 c3)
                          clear c3
                          go_wp2_with fail
                          go_roundw
                          case rel => exact ⟨j + 1, ad, m, ca, by omega, by go_num, rfl, No.out (risk_not hT.out (.inr (.inr (by rw [← Hbb.out]; exact C3.out))))⟩
                          case measure => simp [intOf]; omega
                      · have t2 : (Way.bitI T a == 0) = true := by rw [bitI_zero]; simp [c2]
                        have C2 := Lib.hid (Bool.eq_false_iff.2 c2)
                        clear c2
                        go_wp2_with fail
                        go_roundw
                        case rel => exact ⟨j + 1, ad, m, ca, by omega, by go_num, rfl, No.out (risk_not hT.out (.inr (.inl C2.out)))⟩
                        case measure => simp [intOf]; omega
                  · go_wp2_with fail
                    go_roundw
                    case rel => exact ⟨a + 1, ad, m, ca, by omega, by go_num, rfl, by rw [risk_row_done (show j = k by omega)]; exact hR2⟩
                    case measure => simp [intOf]; omega
              · obtain rfl : N = a := by omega
                clear hlt3 ha
                have hsr := hR.below.size
                have hm := hR.len
                have hpq := hR.pairs
                have hRs : Way.risksTo k c.strip N = Way.risks k c.strip := by rw [Way.risks, hN.out]
                rw [hRs] at hm hpq
                have HR := Lib.hid hR.below
                clear hR hRs
                subst hm
                have hLl : (Way.risks k c.strip).length ≤ 9223372036854775807 := by
                  have h1 := Way.risksTo_len k c.strip (2 ^ k)
                  have h2 : 2 ^ k * k ≤ 64 * 6 := Nat.mul_le_mul (by rw [← hN.out]; exact hNb) hk
                  unfold Way.risks
                  omega
                obtain ⟨L, hL⟩ : ∃ L, L = Way.risks k c.strip := ⟨_, rfl⟩
                rw [← hL] at hpq Hpr8 hLl ⊢
                clear hL
                have hgood := (Way.chk_good h0.out).2.2.1
                have hlen := (Way.chk_good h0.out).2.2.2
                have Hboxes : Hid (∀ wr, Below wo1.heap.size wo1 wr → (wr.cell? ⟨w.heap.size, 0, none⟩ = some (.int .i64 c.kind) ∧ wr.cell? ⟨w.heap.size, 1, none⟩ = some (.int .i64 c.inp) ∧ wr.cell? ⟨w.heap.size, 2, none⟩ = some (.bool c.neg) ∧ wr.cell? ⟨w.heap.size, 3, none⟩ = some (.slice c.adr c.args.length c.cap)) ∧
                    wr.cell? ⟨w4.heap.size, 0, none⟩ = some (.int .i64 d.kind) ∧ wr.cell? ⟨w4.heap.size, 1, none⟩ = some (.int .i64 d.inp) ∧ wr.cell? ⟨w4.heap.size, 2, none⟩ = some (.bool d.neg) ∧ wr.cell? ⟨w4.heap.size, 3, none⟩ = some (.slice d.adr d.args.length d.cap)) := Lib.hid fun wr h => by
                  have hb := HR.out.trans (h.mono hsr)
                  have hy := (hb.block w4.heap.size h48).trans Hy8.out
                  exact ⟨boxed (Hbox.out _ hb), cell_at hy, cell_at hy, cell_at hy, cell_at hy⟩
                have Hother : Hid (∀ wr, Below wo1.heap.size wo1 wr → Calls Try.prog 18 #[c.agg] wr fun e w' => ∃ o : WT, e = .returned o.agg ∧ o.strip = c.strip.dual ∧ Hid (o.In w' w'.heap.size) ∧ Below wo1.heap.size wo1 w') := Lib.hid fun wr h => by
                  refine (other_any c hgood hlen wr B (by have := h.size; omega) (Hin.out _ (HR.out.trans (h.mono hsr)))).mono fun e w' ⟨o, he, ho1, ho2, hb⟩ => ?_
                  exact ⟨o, he, ho1, Lib.hid (ho2.in_ (B := w'.heap.size) (fun b hb => hb.2)), h.trans (hb.mono h.size)⟩
                have Hsame : Hid (∀ (wr : World) (o : WT), Below wo1.heap.size wo1 wr → o.strip = c.strip.dual → Hid (o.In wr wr.heap.size) → Calls Try.prog 16 #[d.agg, o.agg] wr fun e w' => e = .returned (.bool true) ∧ Below wo1.heap.size wo1 w') := Lib.hid fun wr o h ho1 ho2 => by
                  refine (same_dual c d o hlen hd1 ho1 wr wr.heap.size (Nat.le_refl _) ((Hd8.out.below_ (HR.out.trans (h.mono hsr))).mono (by have := h.size; omega)) ho2.out).mono fun e w' ⟨he, hb⟩ => ⟨he, h.trans (hb.mono h.size)⟩
                have Hequal : Hid (∀ wr, Below wo1.heap.size wo1 wr → Calls Try.prog 19 #[.slice ra L.length rc, .slice ad L.length ca] wr fun e w' => e = .returned (.bool true) ∧ Below wo1.heap.size wo1 w') := Lib.hid fun wr h => by
                  refine (equal_pairs L.length L ra ad rc ca wo1.heap.size wr (Lib.hid ⟨((Hpr8.out.below (HR.out)).mono hsr).below h, hpq.below h⟩) (Lib.hid rfl) hLl).mono fun e w' ⟨he, n, hw⟩ => ⟨he, ?_⟩
                  rw [hw]
                  exact below_drewN h n
                have tT : ((T : Int) == (T : Int)) = true := by simp
                go_wp2_with fail
                go_region_held3 (fun w' => w'.cell? ⟨w.heap.size, 0, none⟩ = some (.int .i64 c.kind) ∧ w'.cell? ⟨w.heap.size, 1, none⟩ = some (.int .i64 c.inp) ∧ w'.cell? ⟨w.heap.size, 2, none⟩ = some (.bool c.neg) ∧ w'.cell? ⟨w.heap.size, 3, none⟩ = some (.slice c.adr c.args.length c.cap) ∧
                    w'.cell? ⟨w4.heap.size, 0, none⟩ = some (.int .i64 d.kind) ∧ w'.cell? ⟨w4.heap.size, 1, none⟩ = some (.int .i64 d.inp) ∧ w'.cell? ⟨w4.heap.size, 2, none⟩ = some (.bool d.neg) ∧ w'.cell? ⟨w4.heap.size, 3, none⟩ = some (.slice d.adr d.args.length d.cap))
                  (first | exact and_four (Hboxes.out _ hbe) | exact and_four (Hboxes.out _ hbs) | exact and_four (Hboxes.out _ hbo) | exact and_four (Hboxes.out _ (Below.refl _ _)) | exact and_four (Hboxes.out _ (Below.refl _ _).drew) | go_keep)
                  (first
                  | (go_at_call 18; refine (Hother.out _ (Below.refl _ wo1).drew).mono ?_; rintro e wa ⟨o, rfl, ho1, ho2, hbo⟩; unfold WT.agg)
                  | (go_at_call 16; refine (Hsame.out _ o hbo ho1 ho2).mono ?_; rintro e wc2 ⟨rfl, hbs⟩)
                  | (go_at_call 19; refine (Hequal.out _ hbs).mono ?_; rintro e wd ⟨rfl, hbe⟩))
                go_wp2_with fail
                go_ret
                exact ⟨rfl, BL8.out.trans ((HR.out.trans (hbe.mono hsr)).mono hsw8)⟩
end Go.Proofs.Ytbjadcanfngijaa
