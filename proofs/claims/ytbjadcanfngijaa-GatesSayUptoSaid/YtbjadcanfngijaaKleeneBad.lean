/- voltaiclaw.GatesKleene walked where an expression or its inputs are refused: it returns true. -/
import Derived.Test.YtbjadcanfngijaaCloses
import Derived.Test.YtbjadcanfngijaaDualTop
namespace Go.Proofs.Ytbjadcanfngijaa
open Go.RowKit

/-- the struct that a call boxed first, in every later world. -/
theorem boxed {w w1 : World} {a0 a1 a2 a3 : Value} {t : TypeId} (hb : Below (w.heap.size + 1) (w.alloc (.cells #[a0, a1, a2, a3] t)) w1) :
    w1.cell? ⟨w.heap.size, 0, none⟩ = some a0 ∧ w1.cell? ⟨w.heap.size, 1, none⟩ = some a1 ∧ w1.cell? ⟨w.heap.size, 2, none⟩ = some a2 ∧ w1.cell? ⟨w.heap.size, 3, none⟩ = some a3 := by
  have h : ∀ i, w1.cell? ⟨w.heap.size, i, none⟩ = (#[a0, a1, a2, a3] : Array Value)[i]? := fun i => by
    rw [hb.cell (p := ⟨w.heap.size, i, none⟩) (by show w.heap.size < _; omega)]
    simp
  exact ⟨h 0, h 1, h 2, h 3⟩

theorem closed_bad {xs : List Int} {t : Way} {q : Int} (h : ¬ q = 0) (hq : q = Way.chk xs.length t) : Way.closed xs t = (0, q) := by unfold Way.closed; rw [← hq, if_pos h]
theorem table_of_bad {k : Int} {t : Way} {q : Int} (h : ¬ q = 0) (hq : q = Way.chk k t) : Way.table k t = (0, q) := by unfold Way.table; rw [← hq, if_pos h]

set_option maxRecDepth 100000 in
set_option maxHeartbeats 800000 in
theorem kleene_bad (c : WT) (hs : c.Small) (xs : List Int) (A : Option Addr) (cx : Nat) (w : World) (B : Nat) (hB : B ≤ w.heap.size) (hin : Hid (c.In w B)) (hx : Hid (IntsAt w B A xs)) (hn : xs.length ≤ 9223372036854775807)
    (q : Int) (h0 : Hid (¬ q = 0)) (hq : Hid (q = Way.chk xs.length c.strip)) :
    Calls Try.prog 4 #[c.agg, .slice A xs.length cx] w fun e w' => e = .returned (.bool true) ∧ Below w.heap.size w w' := by
  have t0 : (q != 0) = true := by simpa using h0.out
  unfold WT.agg
  go_enter Try.func4, Try.ntmps4
  go_wp2_with fail
  refine (closes_any _).mono ?_
  rintro e w1 ⟨rfl, hb1⟩
  have b1 : Below (w.heap.size + 1) (w.alloc (.cells #[.int .i64 c.kind, .int .i64 c.inp, .bool c.neg, .slice c.adr c.args.length c.cap] 29)) w1 := hb1.mono (by simp)
  have bl1 : Below w.heap.size w w1 := ((Below.refl _ _).alloc (Nat.le_refl _) _).trans (b1.mono (by omega))
  have hs1 := b1.size
  simp only [World.size_alloc] at hs1
  obtain ⟨x0, x1, x2, x3⟩ := boxed b1
  go_wp2_with fail
  refine (closed_any c hs xs A cx w1 B (by omega) (Lib.hid (hin.out.below_ (bl1.mono hB))) (Lib.hid (hx.out.below (bl1.mono hB))) hn).mono ?_
  rw [closed_bad h0.out hq.out]
  rintro e w2 ⟨rfl, hb2⟩
  have b2 := b1.trans (hb2.mono hs1)
  have bl2 : Below w.heap.size w w2 := bl1.trans (hb2.mono (by omega))
  have hs2 := b2.size
  simp only [World.size_alloc] at hs2
  clear x0 x1 x2 x3
  obtain ⟨x0, x1, x2, x3⟩ := boxed b2
  go_wp2_with fail
  refine (table_any c hs xs.length w2 B (by omega) (Lib.hid (hin.out.below_ (bl2.mono hB)))).mono ?_
  rw [table_of_bad h0.out hq.out]
  rintro e w3 ⟨rfl, hb3⟩
  have b3 := b2.trans (hb3.mono hs2)
  have bl3 : Below w.heap.size w w3 := bl2.trans (hb3.mono (by omega))
  have hs3 := b3.size
  simp only [World.size_alloc] at hs3
  clear x0 x1 x2 x3
  obtain ⟨x0, x1, x2, x3⟩ := boxed b3
  go_wp2_with fail
  refine (dual_bad c hs xs.length w3 B (by omega) (Lib.hid (hin.out.below_ (bl3.mono hB))) (Lib.hid (by rw [← hq.out]; exact h0.out))).mono ?_
  rw [← hq.out]
  rintro e w4 ⟨rfl, hb4⟩
  have bl4 : Below w.heap.size w w4 := bl3.trans (hb4.mono (by omega))
  go_wp2_with fail
  go_ret
  exact ⟨rfl, bl4.alloc bl4.size _⟩
end Go.Proofs.Ytbjadcanfngijaa
