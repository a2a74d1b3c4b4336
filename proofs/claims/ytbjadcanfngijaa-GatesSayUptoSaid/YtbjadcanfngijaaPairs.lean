/- slices.Equal at [][2]int: two slices that read as one list are equal. -/
import Derived.Test.YtbjadcanfngijaaMem
namespace Go.Proofs.Ytbjadcanfngijaa
open Go.RowKit

def PairsAt (w : World) (B : Nat) (A : Option Addr) (ps : List (Int × Int)) : Prop :=
  0 < ps.length → ∃ b o, A = some ⟨b, o, none⟩ ∧ b < B ∧ ∀ k (h : k < ps.length), w.cell? ⟨b, o + k * 2, none⟩ = some (.int .i64 ps[k].1) ∧ w.cell? ⟨b, o + k * 2 + 1, none⟩ = some (.int .i64 ps[k].2)

theorem PairsAt.keep {w w' : World} {B : Nat} {A : Option Addr} {ps : List (Int × Int)} (h : PairsAt w B A ps) (hk : ∀ b o, b < B → w'.cell? ⟨b, o, none⟩ = w.cell? ⟨b, o, none⟩) : PairsAt w' B A ps := by
  intro h0
  obtain ⟨b, o, e, hb, hc⟩ := h h0
  exact ⟨b, o, e, hb, fun k hk' => ⟨(hk b _ hb).trans (hc k hk').1, (hk b _ hb).trans (hc k hk').2⟩⟩
theorem PairsAt.mono {w : World} {B B' : Nat} {A : Option Addr} {ps : List (Int × Int)} (h : PairsAt w B A ps) (hB : B ≤ B') : PairsAt w B' A ps := by
  intro h0
  obtain ⟨b, o, e, hb, hc⟩ := h h0
  exact ⟨b, o, e, by omega, hc⟩
theorem PairsAt.below {w w' : World} {B : Nat} {A : Option Addr} {ps : List (Int × Int)} (h : PairsAt w B A ps) (hb : Below B w w') : PairsAt w' B A ps :=
  h.keep fun b o hlt => hb.cell (p := ⟨b, o, none⟩) hlt
theorem PairsAt.alloc {w : World} {B : Nat} {A : Option Addr} {ps : List (Int × Int)} (h : PairsAt w B A ps) (hB : B ≤ w.heap.size) (o : Obj) : PairsAt (w.alloc o) B A ps :=
  h.keep fun b i hlt => World.cell?_alloc_lt w o ⟨b, i, none⟩ (by show b < _; omega)

theorem run_sizeOf3 (w : World) : (sizeOf 3).run Try.prog w = .ok 1 w := by kernel_rfl
theorem eqin (d : Nat) (a b : Int) (w : World) (e1 : ∀ x, (Op.equalIn d 3 (.int .i64 x) (.int .i64 x)).run Try.prog w = .ok true w) : (Op.equalIn (d + 1) 48 (.agg #[.int .i64 a, .int .i64 b]) (.agg #[.int .i64 a, .int .i64 b])).run Try.prog w = .ok true w := by
  simp only [Op.equalIn, Sem.run_bind, run_underlying Try.underlying48, Result.andThen_ok]
  rw [run_sizeOf3]
  simp only [Result.andThen_ok]
  simp only [Std.Legacy.Range.forIn_eq_forIn_range', Std.Legacy.Range.size]
  rw [show List.range' 0 ((2 - 0 + 1 - 1) / 1) 1 = [0, 1] from rfl]
  simp [go_sem, part, isAgg, run_underlying Try.underlying3, e1]
theorem eqin_int (d : Nat) (x : Int) (w : World) : (Op.equalIn (d + 1) 3 (.int .i64 x) (.int .i64 x)).run Try.prog w = .ok true w := by
  rw [run_equalIn_int w d 3 .i64 .i64 x x Try.underlying3]; simp
theorem neq_same (a b : Int) (w : World) : (binOp .neq 48 (.agg #[.int .i64 a, .int .i64 b]) (.agg #[.int .i64 a, .int .i64 b])).run Try.prog w = .ok (.bool false) w := by
  rw [run_neq_struct, eqin 9999 a b w (fun x => eqin_int 9998 x w)]
  rfl

set_option maxHeartbeats 400000 in
theorem equal_pairs (n : Nat) (ps : List (Int × Int)) (A B : Option Addr) (c d D : Nat) (w : World) (hx : Hid (PairsAt w D A ps ∧ PairsAt w D B ps)) (hl : Hid (ps.length = n)) (hn : n ≤ 9223372036854775807) :
    Calls Try.prog 19 #[.slice A n c, .slice B n d] w fun e w' => e = .returned (.bool true) ∧ ∃ k, w' = w.drewN k := by
  have hne : ((n : Int) != (n : Int)) = false := by simp
  go_enter Try.func19, Try.ntmps19
  go_wp2
  go_loopw [13] (fun i wr => ∃ k m : Nat, k ≤ n ∧ i = .int .i64 k ∧ wr = w.drewN m) (fun i _ => n - (intOf i).toNat)
  case atStart => exact ⟨0, 0, Nat.zero_le _, rfl, rfl⟩
  case round =>
    obtain ⟨k, m, hk, rfl, rfl⟩ := hrel
    by_cases hlt : k < n
    · obtain ⟨⟨hxa, hya⟩, hl1⟩ := And.intro hx.out hl.out
      obtain ⟨b, o, rfl, _, hcx⟩ := hxa (by omega)
      obtain ⟨b2, o2, rfl, _, hcy⟩ := hya (by omega)
      obtain ⟨cx0, cx1⟩ := hcx k (by omega)
      obtain ⟨cy0, cy1⟩ := hcy k (by omega)
      obtain ⟨⟨u, v⟩, hp⟩ : ∃ p, p = ps[k]'(by omega) := ⟨_, rfl⟩
      rw [← hp] at cx0 cx1 cy0 cy1
      simp only at cx0 cx1 cy0 cy1
      clear hcx hcy hxa hya hl1 hp
      have hkI : (k : Int) < (n : Int) := by omega
      have hnq := neq_same u v
      go_wp2
      go_quiet (fail)
      go_wp2
      go_roundw
      case rel => exact ⟨k + 1, _, by omega, by go_num, rfl⟩
      case measure => simp [intOf]; omega
    · go_wp2
      go_ret
      exact ⟨rfl, _, rfl⟩
end Go.Proofs.Ytbjadcanfngijaa
