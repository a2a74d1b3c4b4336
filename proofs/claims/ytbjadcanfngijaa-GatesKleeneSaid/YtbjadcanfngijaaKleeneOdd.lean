/- voltaiclaw.GatesKleene walked where an input is no 0, 1, 2, and at every input: it returns true. -/
import Derived.Test.YtbjadcanfngijaaKleeneWalk
namespace Go.Proofs.Ytbjadcanfngijaa
open Go.RowKit

set_option maxRecDepth 100000 in
set_option maxHeartbeats 800000 in
theorem kleene_odd (c : WT) (hs : c.Small) (xs : List Int) (A : Option Addr) (cx : Nat) (w : World) (B : Nat) (hB : B ≤ w.heap.size) (hin : Hid (c.In w B)) (hx : Hid (IntsAt w B A xs)) (n : Nat) (hn : Hid (n = xs.length)) (hn6 : n ≤ 6)
    (h0 : Hid (Way.chk xs.length c.strip = 0)) (ho : Hid (xs.any Way.odd = true)) (T : Nat) (hT : Hid (T = Way.tab n c.strip)) :
    Calls Try.prog 4 #[c.agg, .slice A n cx] w fun e w' => e = .returned (.bool true) ∧ Below w.heap.size w w' := by
  unfold WT.agg
  go_enter Try.func4, Try.ntmps4
  go_wp2_with fail
  refine (closes_any _).mono ?_
  rintro e w1 ⟨rfl, hb1⟩
  have b1 : Below (w.heap.size + 1) (w.alloc (.cells #[.int .i64 c.kind, .int .i64 c.inp, .bool c.neg, .slice c.adr c.args.length c.cap] 29)) w1 := hb1.mono (by simp)
  have bl1 : Below w.heap.size w w1 := ((Below.refl _ _).alloc (Nat.le_refl _) _).trans (b1.mono (by omega))
  have hs1 := b1.size
  simp only [World.size_alloc] at hs1
  obtain ⟨x0, x1, x2, x3⟩ := boxed b1
  go_wp2_with fail
  have hcl := closed_any c hs xs A cx w1 B (by omega) (Lib.hid (hin.out.below_ (bl1.mono hB))) (Lib.hid (hx.out.below (bl1.mono hB))) (by rw [← hn.out]; omega)
  rw [closed_odd h0.out ho.out, ← hn.out] at hcl
  refine hcl.mono ?_
  clear hcl
  rintro e w2 ⟨rfl, hb2⟩
  have b2 := b1.trans (hb2.mono hs1)
  have bl2 : Below w.heap.size w w2 := bl1.trans (hb2.mono (by omega))
  have hs2 := b2.size
  simp only [World.size_alloc] at hs2
  clear x0 x1 x2 x3
  obtain ⟨x0, x1, x2, x3⟩ := boxed b2
  go_wp2_with fail
  have hta := table_any c hs n w2 B (by omega) (Lib.hid (hin.out.below_ (bl2.mono hB)))
  rw [table_of_good (by rw [hn.out]; exact h0.out) hT.out] at hta
  refine hta.mono ?_
  clear hta
  rintro e w3 ⟨rfl, hb3⟩
  have b3 := b2.trans (hb3.mono hs2)
  have bl3 : Below w.heap.size w w3 := bl2.trans (hb3.mono (by omega))
  have hs3 := b3.size
  simp only [World.size_alloc] at hs3
  clear x0 x1 x2 x3
  obtain ⟨x0, x1, x2, x3⟩ := boxed b3
  go_wp2_with fail
  refine (dual_top c hs n w3 B (by omega) (Lib.hid (hin.out.below_ (bl3.mono hB))) (Lib.hid (by rw [hn.out]; exact h0.out))).mono ?_
  rintro e w4 ⟨d, rfl, hd1, hd2, hb4⟩
  have bl4 : Below w.heap.size w w4 := bl3.trans (hb4.mono (by omega))
  clear x0 x1 x2 x3 b1 b2 b3 hb1 hb2 hb3 hb4 hd1 hd2
  go_wp2_with fail
  go_ret
  exact ⟨rfl, bl4.alloc bl4.size _⟩

theorem kleene_any (c : WT) (hs : c.Small) (xs : List Int) (A : Option Addr) (cx : Nat) (w : World) (B : Nat) (hB : B ≤ w.heap.size) (hin : c.In w B) (hx : IntsAt w B A xs) (hn : xs.length ≤ 9223372036854775807) :
    Calls Try.prog 4 #[c.agg, .slice A xs.length cx] w fun e w' => e = .returned (.bool true) ∧ Below w.heap.size w w' := by
  by_cases h0 : Way.chk xs.length c.strip = 0
  · have hg := Way.chk_good h0
    have hn6 : xs.length ≤ 6 := by omega
    by_cases ho : xs.any Way.odd = true
    · exact kleene_odd c hs xs A cx w B hB (Lib.hid hin) (Lib.hid hx) xs.length (Lib.hid rfl) hn6 (Lib.hid h0) (Lib.hid ho) _ (Lib.hid rfl)
    · have hN : (2 : Nat) ^ xs.length ≤ 2 ^ 6 := Nat.pow_le_pow_right (by omega) hn6
      have hT : Way.tab xs.length c.strip < 2 ^ 64 := Nat.lt_of_lt_of_le (Way.tabTo_lt _ c.strip (2 ^ xs.length)) (Nat.pow_le_pow_right (by omega) (by omega))
      exact kleene_good c hs xs A cx w B hB (Lib.hid hin) (Lib.hid hx) xs.length (Lib.hid rfl) hn6 (Lib.hid h0) (Lib.hid ho) _ (Lib.hid rfl) _ (Lib.hid rfl) (Lib.hid (by omega)) (2 ^ xs.length) (Lib.hid rfl) (by omega) (pow_small rfl (by omega))
  · exact kleene_bad c hs xs A cx w B hB (Lib.hid hin) (Lib.hid hx) hn _ (Lib.hid h0) (Lib.hid rfl)
end Go.Proofs.Ytbjadcanfngijaa
