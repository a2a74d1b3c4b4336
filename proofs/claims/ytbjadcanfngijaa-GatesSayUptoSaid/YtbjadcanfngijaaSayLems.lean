/- Contracts as GatesSay meets them where the expression is taken: Leads at a row, at a row with one input open; other and sameWay at the dual. -/
import Derived.Test.YtbjadcanfngijaaLeads
import Derived.Test.YtbjadcanfngijaaRowsOf
import Derived.Test.YtbjadcanfngijaaOther
import Derived.Test.YtbjadcanfngijaaSame
import Derived.Test.YtbjadcanfngijaaRisksWalk
import Derived.Test.YtbjadcanfngijaaKleeneWalk
namespace Go.Proofs.Ytbjadcanfngijaa
open Go.RowKit

theorem leads_row (c : WT) (hs : c.Small) (k r cx : Nat) (A : Option Addr) (hg : c.strip.Good k) (w : World) (B : Nat) (hB : B ≤ w.heap.size) (hin : c.In w B) (hx : IntsAt w B A (Way.rowOf k r)) :
    Calls Try.prog 15 #[c.agg, .slice A k cx] w fun e w' => e = .returned (.int .i64 (c.strip.val (Way.rowOf k r))) ∧ Below w.heap.size w w' := by
  have h := leads_any (Way.rowOf k r) A cx (Way.rowOf_bd k r) c hs (by rw [Way.rowOf_length]; exact hg) w B hB hin hx
  rw [Way.rowOf_length] at h
  exact h

theorem leads_set (c : WT) (hs : c.Small) (k r q cx : Nat) (A : Option Addr) (hg : c.strip.Good k) (w : World) (B : Nat) (hB : B ≤ w.heap.size) (hin : c.In w B) (hx : IntsAt w B A ((Way.rowOf k r).set q 2)) :
    Calls Try.prog 15 #[c.agg, .slice A k cx] w fun e w' => e = .returned (.int .i64 (c.strip.val ((Way.rowOf k r).set q 2))) ∧ Below w.heap.size w w' := by
  have hl : ((Way.rowOf k r).set q 2).length = k := by rw [List.length_set, Way.rowOf_length]
  have h := leads_any ((Way.rowOf k r).set q 2) A cx (set_bd k r q) c hs (by rw [hl]; exact hg) w B hB hin hx
  rw [hl] at h
  exact h

theorem RiskRel.start_at {B : Nat} {w1 wr : World} (h : Below B w1 wr) : RiskRel B w1 wr [] none 0 0 := ⟨h, rfl, ⟨by simp, .inl ⟨rfl, rfl⟩⟩⟩

/-- the full row, as ints, once one input has been opened. -/
theorem ints_open {wr : World} {b k r : Nat} (h : wr.rowIs b 3 k (fun i => .int .i64 (Way.bitI r i))) (q : Nat) :
    IntsAt (wr.setCell ⟨b, q, none⟩ (.int .i64 2)) (b + 1) (some ⟨b, 0, none⟩) ((Way.rowOf k r).set q 2) :=
  ints_set (j := k) (by omega) (h.congr fun i hi => by rw [if_pos hi]) (Nat.le_refl _) q

/-- sameWay(d, o) where both read as the dual. -/
theorem same_dual (c d o : WT) (hl : c.strip.pre.length ≤ 40) (hd : d.strip = c.strip.dual) (ho : o.strip = c.strip.dual) : SameOk d o :=
  same_any d (small_of_len d (by rw [hd, Way.pre_dual]; exact hl)) o (hd.trans ho.symm)
end Go.Proofs.Ytbjadcanfngijaa
