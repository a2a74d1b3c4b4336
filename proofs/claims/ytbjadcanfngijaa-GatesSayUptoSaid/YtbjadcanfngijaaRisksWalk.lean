/- gates.Risks walked. -/
import Derived.Test.YtbjadcanfngijaaRisks
namespace Go.Proofs.Ytbjadcanfngijaa
open Go.RowKit

theorem risk_bits {k a j T : Nat} {t : Way} {v : Int} (hT : T = Way.tab k t) (hv : v = Way.val ((Way.rowOf k a).set j 2) t) (h1 : a.testBit j = false) (h2 : T.testBit a = true) (h3 : T.testBit (a ||| 2 ^ j) = true) : Way.riskB k t a j = decide (v = 2) := by
  subst hT
  simp [Way.riskB, h1, h2, h3, hv]
theorem risk_not {k a j T : Nat} {t : Way} (hT : T = Way.tab k t) (h : a.testBit j = true ∨ T.testBit a = false ∨ T.testBit (a ||| 2 ^ j) = false) : Way.riskB k t a j = false := by
  subst hT
  rcases h with h | h | h <;> simp [Way.riskB, h]

theorem risk_row_done {k j a : Nat} {t : Way} (h : j = k) : Way.risksTo k t (a + 1) = Way.risksTo k t a ++ Way.riskRow k t a j := by
  subst h; exact Way.risksTo_succ j t a

theorem risk_out {w w1 wr : World} {k a : Nat} {t : Way} {ad : Option Addr} {n ca : Nat} (h : RiskRel (w.heap.size + 1) w1 wr (Way.risksTo k t a) ad n ca) (ha : a = 2 ^ k) (hb : Below w.heap.size w w1) :
    RisksPost k t w (.returned (.tuple #[.slice ad n ca, .int .i64 0])) wr := by
  subst ha
  refine ⟨ad, ca, ?_, h.pairs, hb.trans (h.below.mono (by omega))⟩
  rw [h.len]
  rfl

set_option maxRecDepth 100000 in
set_option maxHeartbeats 1600000 in
theorem risks_good (c : WT) (hs : c.Small) (k : Nat) (hk : k ≤ 6) (w : World) (B : Nat) (hB : B ≤ w.heap.size) (hin : Hid (c.In w B)) (h0 : Hid (Way.chk k c.strip = 0)) (N : Nat) (hN : Hid (N = 2 ^ k)) (hNb : N ≤ 64) (hsh : wrap64 ((2 : Int) ^ k) = N) (T : Nat) (hT : Hid (T = Way.tab k c.strip)) (hTb : Hid (T < 18446744073709551616)) :
    Calls Try.prog 13 #[c.agg, .int .i64 k] w (RisksPost k c.strip w) := by
  obtain ⟨i0, hi0, hz0, hz1, hz2⟩ := info_parts Try.info48
  have hck := Lib.hid (table_any c hs k)
  unfold WT.agg
  go_enter Try.func13, Try.ntmps13
  go_wp2_with fail
  refine (hck.out _ B ?_ ?_).mono ?_
  · simp; omega
  · exact Lib.hid (hin.out.alloc hB _)
  have ht : Way.table k c.strip = ((T : Int), 0) := by unfold Way.table; rw [if_neg (by simpa using h0.out), Int.toNat_natCast, ← hT.out]
  rw [ht]
  clear ht
  rintro e w1 ⟨rfl, hb1⟩
  have hbw : Below w.heap.size w w1 := ((Below.refl _ _).alloc (Nat.le_refl _) _).trans (hb1.mono (by simp))
  have hsz : w.heap.size + 1 ≤ w1.heap.size := by have := hb1.size; simpa using this
  obtain ⟨hc, hf⟩ := old_of hb1
  simp only [World.size_alloc] at hc hf
  have hcell := fun i (wr : World) (hb : Below (w.heap.size + 1) w1 wr) => ((old_of hb).1 w.heap.size i (by omega)).trans (hc w.heap.size i (by omega))
  have Hcell := Lib.hid hcell
  clear hcell
  go_wp2_with fail
  rw [hsh]
  clear hsh
  go_loopw [25, 8] (fun i o wr => ∃ (a : Nat) (ad : Option Addr) (n ca : Nat), a ≤ N ∧ i = .int .i64 a ∧ o = .slice ad n ca ∧ RiskRel (w.heap.size + 1) w1 wr (Way.risksTo k c.strip a) ad n ca) (fun i _ _ => N - (intOf i).toNat)
  case atStart => exact ⟨0, none, 0, 0, by omega, rfl, rfl, RiskRel.start w1⟩
  case round =>
    obtain ⟨a, ad, n, ca, ha, rfl, rfl, hR⟩ := hrel
    obtain ⟨wo, rfl⟩ : ∃ wo : World, wo = wr := ⟨_, rfl⟩
    clear hc hf
    by_cases hlt : a < N
    · have haI : (a : Int) < N := by omega
      have ha64 : (a : Int) < 64 := by omega
      go_wp2_with fail
      go_loopw [29, 8] (fun i o wr => ∃ (j : Nat) (ad : Option Addr) (n ca : Nat), j ≤ k ∧ i = .int .i64 j ∧ o = .slice ad n ca ∧ RiskRel (w.heap.size + 1) w1 wr (Way.risksTo k c.strip a ++ Way.riskRow k c.strip a j) ad n ca) (fun i _ _ => k - (intOf i).toNat)
      case atStart => exact ⟨0, ad, n, ca, by omega, rfl, rfl, by simpa [Way.riskRow] using hR⟩
      case round =>
        obtain ⟨wo2, rfl⟩ : ∃ wo : World, wo = wr := ⟨_, rfl⟩
        clear hR
        obtain ⟨j, ad, n, ca, hj, rfl, rfl, hR2⟩ := hrel
        by_cases hjk : j < k
        · have hjI : (j : Int) < k := by omega
          obtain ⟨bb, hbb⟩ : ∃ bb, bb = a ||| 2 ^ j := ⟨_, rfl⟩
          have hbb64 : (bb : Int) < 64 := by have := or_lt (a := a) (j := j) (k := k) (by rw [← hN.out]; exact hlt) hjk; rw [← hN.out, ← hbb] at this; omega
          have hor := or_pow (a := a) (j := j) (by omega) (by omega) hbb
          have ht1 := tab_and (r := a) hTb.out
          have ht2 := tab_and (r := bb) hTb.out
          have Hbb := Lib.hid hbb
          clear hbb
          have no : Way.riskB k c.strip a j = false → RiskRel (w.heap.size + 1) w1 wo2 (Way.risksTo k c.strip a ++ Way.riskRow k c.strip a (j + 1)) ad n ca := fun h => by rw [risk_no h]; exact hR2
          have No := Lib.hid no
          clear no
          by_cases c1 : a.testBit j = true
          · have t1 : ((a : Int) == (bb : Int)) = true := by
              have := or_same.2 c1
              rw [← Hbb.out] at this
              simp; omega
            have C1 := Lib.hid c1
            clear c1
            go_wp2_with fail
            go_roundw
            case rel => exact ⟨j + 1, ad, n, ca, by omega, by go_num, rfl, No.out (risk_not hT.out (.inl C1.out))⟩
            case measure => simp [intOf]; omega
          · have t1 : ((a : Int) == (bb : Int)) = false := by
              have h : ¬ a = bb := fun e => c1 (or_same.1 (by rw [← Hbb.out]; exact e))
              simp; omega
            have C1 := Lib.hid c1
            clear c1
            by_cases c2 : T.testBit a = true
            · have t2 : (Way.bitI T a == 0) = false := by rw [bitI_zero, c2]; rfl
              have C2 := Lib.hid c2
              clear c2
              by_cases c3 : T.testBit bb = true
              · have t3 : (Way.bitI T bb == 0) = false := by rw [bitI_zero, c3]; rfl
                have C3 := Lib.hid c3
                clear c3
                have hmk := run_make_row' (P := Try.prog) 24 3 (.int .i64 0) 8 Try.underlying24 Try.info3 rfl .i64 .i64 k (by omega) (by omega)
                have hs2 := hR2.below.size
                have hnew := Lib.hid (World.rowIs_made wo2 (.int .i64 0) k 3)
                have hRn := Lib.hid (hR2.to ((Below.refl wo2.heap.size wo2).alloc (Nat.le_refl _) (.cells (madeCells #[.int .i64 0] k) 3)) (by omega))
                have hne := hR2.ne (Nat.le_refl _)
                go_wp2_with fail
                go_loopw [57] (fun i wr => ∃ q : Nat, q ≤ k ∧ i = .int .i64 q ∧ RiskRel (w.heap.size + 1) w1 wr (Way.risksTo k c.strip a ++ Way.riskRow k c.strip a j) ad n ca ∧ wr.rowIs wo2.heap.size 3 k (fun i => .int .i64 (if i < q then Way.bitI a i else 0)) ∧ wo2.heap.size < wr.heap.size) (fun i _ => k - (intOf i).toNat)
                case atStart => exact ⟨0, by omega, rfl, hRn.out, hnew.out.congr (fun i _ => by simp), by simp⟩
                case round =>
                  obtain ⟨q, hq, rfl, hRq, hrow, hsi⟩ := hrel
                  clear hmk hnew hRn ht1 ht2 hor
                  by_cases hqk : q < k
                  · have hqI : (q : Int) < k := by omega
                    have hcq := hrow.cell hqk
                    have hfq := hrow.frozen q
                    have Hrow := Lib.hid hrow
                    clear hrow
                    have hbit := row_bit a q
                    go_wp2_with fail
                    go_roundw
                    case rel => exact ⟨q + 1, by omega, by go_num, hRq.setNew (by omega) hne _, row_step Hrow.out, by simpa [World.setCell] using hsi⟩
                    case measure => simp [intOf]; omega
                  · have hints := Lib.hid (ints_set hqk hrow (by omega) j)
                    have hcj := hrow.cell hjk
                    have hfj := hrow.frozen j
                    clear hrow
                    have hRj := hRq.setNew (b := wo2.heap.size) (i := j) (by omega) hne (.int .i64 2)
                    have hbox := fun i => Hcell.out i _ hRj.below
                    have hval := Lib.hid (value_set c hs k a j k (some ⟨wo2.heap.size, 0, none⟩) (Way.chk_good h0.out).2.2.1)
                    have hsr := hRj.below.size
                    have hszj : wo2.heap.size + 1 ≤ (wr.setCell ⟨wo2.heap.size, j, none⟩ (.int .i64 2)).heap.size := by simp [World.setCell]; omega
                    have hnb : n ≤ 400 := by
                      have h1 := hRq.len
                      have h2 := Way.risksTo_len k c.strip a
                      have h3 := Way.riskRow_len k c.strip a j
                      have h4 : a * k ≤ 64 * 6 := Nat.mul_le_mul (by omega) hk
                      rw [List.length_append] at h1
                      omega
                    have hnbH := Lib.hid hnb
                    clear hnb
                    go_wp2_with fail
                    refine (hval.out _ (wo2.heap.size + 1) hszj ?_ hints.out).mono ?_
                    · exact ((hin.out.below_ (hbw.mono hB)).below_ (hRj.below.mono (by omega))).mono (by omega)
                    rintro e w2 ⟨rfl, hb2⟩
                    have hR3 := hRj.to hb2 (by omega)
                    have hs3 := hb2.size
                    obtain ⟨v, hve⟩ : ∃ v, v = c.strip.val ((Way.rowOf k a).set j 2) := ⟨_, rfl⟩
                    rw [← hve]
                    have Hve := Lib.hid hve
                    clear hve hbox hcj hfj hRq hRj hb2
                    have hrb := Lib.hid (risk_bits hT.out Hve.out (Bool.eq_false_iff.2 C1.out) C2.out (by rw [← Hbb.out]; exact C3.out))
                    by_cases hv : v = 2
                    · have t : (v == 2) = true := by simpa using hv
                      have Hv := Lib.hid hv
                      clear hv
                      go_wp2_with (at_builtin; refine wpList_append_lies _ rfl (.tmp 75) (.tmp 79) 42 rfl (w.heap.size + 1) 48 i0 _ 2 16 Try.underlying42 hi0 hz0 hz1 hz2 rfl (by omega) (.slice ad n ca) n ((Way.risksTo k c.strip a ++ Way.riskRow k c.strip a j).flatMap pairCells) rfl (hR3.own.alloc _) ⟨w2.heap.size, 0, none⟩ 1 1 [.int .i64 a, .int .i64 bb] rfl rfl (World.news_of_block (cs := #[.int .i64 a, .int .i64 bb]) (t := 48) (fr := (0, 0)) (heap_alloc_new w2 _)) (by simp [Value.oneCell']) (by omega) (by have := hnbH.out; unfold maxLen; omega) (by have := hnbH.out; omega) (by simp; omega) (w2.heap.size + 1) (by simp) ?_; intro gg cap w3 hown3 hg3 hat3 hlt3)
                      go_roundw
                      case rel => exact ⟨j + 1, some ⟨gg, 0, none⟩, n + 1, cap, by omega, by go_num, rfl, by rw [risk_yes (hrb.out.trans (by simpa using Hv.out)), ← Hbb.out, ← List.append_assoc]; exact hR3.add (by omega) hown3 hg3⟩
                      case measure => simp [intOf]; omega
                    · have t : (v == 2) = false := by simpa using hv
                      have Hv := Lib.hid hv
                      clear hv
                      go_wp2_with fail
                      go_roundw
                      case rel => exact ⟨j + 1, ad, n, ca, by omega, by go_num, rfl, by rw [risk_no (hrb.out.trans (by simpa using Hv.out))]; exact hR3⟩
                      case measure => simp [intOf]; omega
              · have t3 : (Way.bitI T bb == 0) = true := by rw [bitI_zero]; simp [c3]
                have C3 := Lib.hid (Bool.eq_false_iff.2 c3)
                clear c3
                go_wp2_with fail
                go_roundw
                case rel => exact ⟨j + 1, ad, n, ca, by omega, by go_num, rfl, No.out (risk_not hT.out (.inr (.inr (by rw [← Hbb.out]; exact C3.out))))⟩
                case measure => simp [intOf]; omega
            · have t2 : (Way.bitI T a == 0) = true := by rw [bitI_zero]; simp [c2]
              have C2 := Lib.hid (Bool.eq_false_iff.2 c2)
              clear c2
              go_wp2_with fail
              go_roundw
              case rel => exact ⟨j + 1, ad, n, ca, by omega, by go_num, rfl, No.out (risk_not hT.out (.inr (.inl C2.out)))⟩
              case measure => simp [intOf]; omega
        · go_wp2_with fail
          go_roundw
          case rel => exact ⟨a + 1, ad, n, ca, by omega, by go_num, rfl, by rw [risk_row_done (show j = k by omega)]; exact hR2⟩
          case measure => simp [intOf]; omega
    · have hfin := Lib.hid (risk_out hR (show a = 2 ^ k by rw [← hN.out]; omega) hbw)
      clear hR
      go_wp2_with fail
      go_ret2
      exact hfin.out

theorem risks_at (c : WT) (hs : c.Small) (k : Nat) (w : World) (B : Nat) (hB : B ≤ w.heap.size) (hin : c.In w B) (h0 : Way.chk k c.strip = 0) :
    Calls Try.prog 13 #[c.agg, .int .i64 k] w (RisksPost k c.strip w) := by
  have hg := Way.chk_good h0
  have hk : k ≤ 6 := by omega
  have hN : (2 : Nat) ^ k ≤ 2 ^ 6 := Nat.pow_le_pow_right (by omega) hk
  have hT : Way.tab k c.strip < 2 ^ 64 := Nat.lt_of_lt_of_le (Way.tabTo_lt k c.strip (2 ^ k)) (Nat.pow_le_pow_right (by omega) (by omega))
  exact risks_good c hs k hk w B hB (Lib.hid hin) (Lib.hid h0) (2 ^ k) (Lib.hid rfl) (by omega) (pow_small rfl (by omega)) (Way.tab k c.strip) (Lib.hid rfl) (Lib.hid (by omega))
end Go.Proofs.Ytbjadcanfngijaa
