/- slices.Equal at []int answers whether the two lists are one. -/
import Derived.Test.YtbjadcanfngijaaRows
import Derived.WalkKit
import Derived.WalkSpells
import Derived.WalkLawsBesides
import Derived.Deep.QuietTactic
import Derived.BigQuiet
import Derived.LoopTactic
import Derived.Lib.Hide
namespace Go.Proofs.Ytbjadcanfngijaa
open Go.RowKit

def IntsAt (w : World) (B : Nat) (A : Option Addr) (xs : List Int) : Prop :=
  0 < xs.length → ∃ b o, A = some ⟨b, o, none⟩ ∧ b < B ∧ ∀ k, k < xs.length → w.cell? ⟨b, o + k, none⟩ = some (.int .i64 (xs.getD k 0))

theorem IntsAt.keep {w w' : World} {B : Nat} {A : Option Addr} {xs : List Int} (h : IntsAt w B A xs) (hk : ∀ b o, b < B → w'.cell? ⟨b, o, none⟩ = w.cell? ⟨b, o, none⟩) : IntsAt w' B A xs := by
  intro h0
  obtain ⟨b, o, e, hb, hc⟩ := h h0
  exact ⟨b, o, e, hb, fun k hk' => (hk b _ hb).trans (hc k hk')⟩
theorem IntsAt.mono {w : World} {B B' : Nat} {A : Option Addr} {xs : List Int} (h : IntsAt w B A xs) (hB : B ≤ B') : IntsAt w B' A xs := by
  intro h0
  obtain ⟨b, o, e, hb, hc⟩ := h h0
  exact ⟨b, o, e, by omega, hc⟩
theorem IntsAt.below {w w' : World} {B : Nat} {A : Option Addr} {xs : List Int} (h : IntsAt w B A xs) (hb : Below B w w') : IntsAt w' B A xs :=
  h.keep fun b o hlt => hb.cell (p := ⟨b, o, none⟩) hlt
theorem IntsAt.drewN {w : World} {B : Nat} {A : Option Addr} {xs : List Int} (h : IntsAt w B A xs) (n : Nat) : IntsAt (w.drewN n) B A xs := h
theorem IntsAt.alloc {w : World} {B : Nat} {A : Option Addr} {xs : List Int} (h : IntsAt w B A xs) (hB : B ≤ w.heap.size) (o : Obj) : IntsAt (w.alloc o) B A xs :=
  h.keep fun b i hlt => World.cell?_alloc_lt w o ⟨b, i, none⟩ (by show b < _; omega)
theorem IntsAt.new (w : World) (xs : List Int) (t : TypeId) : IntsAt (w.alloc (.cells (xs.map (Value.int .i64)).toArray t)) (w.heap.size + 1) (some ⟨w.heap.size, 0, none⟩) xs := by
  intro _
  refine ⟨_, 0, rfl, by omega, fun k hk => ?_⟩
  simp [List.getElem?_eq_getElem hk]
theorem IntsAt.nil (w : World) (B : Nat) (A : Option Addr) : IntsAt w B A [] := fun h => absurd h (by simp)

theorem eq_upto {xs ys : List Int} (hl : xs.length = ys.length) (h : ∀ j, j < xs.length → xs.getD j 0 = ys.getD j 0) : xs = ys := by
  apply List.ext_getElem hl
  intro j h1 h2
  have := h j h1
  simpa [List.getD, List.getElem?_eq_getElem, h1, h2] using this

theorem ret_bool {a b : Bool} (h : a = b) : Ending.returned (.bool a) = .returned (.bool b) := by rw [h]
theorem neq_at {xs ys : List Int} {k : Nat} (h : (xs[k]?.getD 0 != ys[k]?.getD 0) = true) : false = decide (xs = ys) := by
  symm
  rw [decide_eq_false_iff_not]
  rintro rfl
  simp at h
theorem upto_succ {xs ys : List Int} {k : Nat} (h : ∀ j, j < k → xs.getD j 0 = ys.getD j 0) (hd : (xs[k]?.getD 0 != ys[k]?.getD 0) = false) : ∀ j, j < k + 1 → xs.getD j 0 = ys.getD j 0 := by
  intro j hj
  rcases Nat.lt_succ_iff_lt_or_eq.1 hj with h1 | rfl
  · exact h j h1
  · simpa using hd
theorem eq_at {n k : Nat} {xs ys : List Int} (hl : xs.length = n ∧ ys.length = n) (hk : n ≤ k) (h : ∀ j, j < k → xs.getD j 0 = ys.getD j 0) : true = decide (xs = ys) := by
  symm
  rw [decide_eq_true_iff]
  exact eq_upto (by omega) (fun j hj => h j (by omega))

set_option maxHeartbeats 400000 in
theorem equal_ints_same (n : Nat) (xs ys : List Int) (A B : Option Addr) (c d D : Nat) (w : World) (hx : Hid (IntsAt w D A xs ∧ IntsAt w D B ys)) (hl : Hid (xs.length = n ∧ ys.length = n))
    (hn : n ≤ 9223372036854775807) :
    Calls Try.prog 6 #[.slice A n c, .slice B n d] w fun e w' => e = .returned (.bool (decide (xs = ys))) ∧ ∃ k, w' = w.drewN k := by
  have hne : ((n : Int) != (n : Int)) = false := by simp
  go_enter Try.func6, Try.ntmps6
  go_wp2
  go_loopw [13] (fun i wr => ∃ k m : Nat, k ≤ n ∧ i = .int .i64 k ∧ (∀ j, j < k → xs.getD j 0 = ys.getD j 0) ∧ wr = w.drewN m) (fun i _ => n - (intOf i).toNat)
  case atStart => exact ⟨0, 0, Nat.zero_le _, rfl, fun j hj => absurd hj (by omega), rfl⟩
  case round =>
    obtain ⟨k, m, hk, rfl, heq, rfl⟩ := hrel
    have Heq := Lib.hid heq; clear heq
    by_cases hlt : k < n
    · obtain ⟨⟨hxa, hya⟩, hl1, hl2⟩ := And.intro hx.out hl.out
      obtain ⟨b, o, rfl, _, hcx⟩ := hxa (by omega)
      obtain ⟨b2, o2, rfl, _, hcy⟩ := hya (by omega)
      have cx := hcx k (by omega)
      have cy := hcy k (by omega)
      clear hcx hcy hxa hya hl1 hl2
      have hkI : (k : Int) < (n : Int) := by omega
      go_wp2
      go_quiet (fail)
      go_wp2
      · have hd : (xs[k]?.getD 0 != ys[k]?.getD 0) = true := by assumption
        go_ret
        exact ⟨ret_bool (neq_at hd), _, World.drewN_drewN ..⟩
      · have hd : (xs[k]?.getD 0 != ys[k]?.getD 0) = false := by assumption
        go_roundw
        case rel => exact ⟨k + 1, _, by omega, by go_num, upto_succ Heq.out hd, rfl⟩
        case measure => simp [intOf]; omega
    · go_wp2
      go_ret
      exact ⟨ret_bool (eq_at hl.out (by omega) Heq.out), _, rfl⟩

theorem equal_ints_lens (n m : Nat) (A B : Option Addr) (c d : Nat) (w : World) (hl : n ≠ m) :
    Calls Try.prog 6 #[.slice A n c, .slice B m d] w fun e w' => e = .returned (.bool false) ∧ w = w' := by
  have hne : ((n : Int) != (m : Int)) = true := by rw [bne_iff_ne]; omega
  go_enter Try.func6, Try.ntmps6
  go_wp2
  go_ret
  exact ⟨rfl, rfl⟩
end Go.Proofs.Ytbjadcanfngijaa
